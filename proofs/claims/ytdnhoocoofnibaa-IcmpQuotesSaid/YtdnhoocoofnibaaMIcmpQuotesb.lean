import Derived.Test.YtdnhoocoofnibaaMIcmpQuotesa
namespace Go.Vm.Code
open Go Go.Vm Go.Proofs
set_option maxRecDepth 100000
set_option maxHeartbeats 4000000
set_option linter.unusedVariables false
def icmp_kind_s1 (icmp_fits : Int → Int → Bool → Option Bool) (icmp_side : Bool → Option Int) (typ : Int) (code : Int) (v6 : Bool) (t : Arr4_Arr2_Int) (t10 : Int) : Option (Sum Int Int) :=
  cond (decide (t10 < 4))
    (
    oreq (decide (0 ≤ t10 ∧ t10 < 4)) <|
    ([udp_Head.mk t.e0.e0 t.e0.e1, udp_Head.mk t.e1.e0 t.e1.e1, udp_Head.mk t.e2.e0 t.e2.e1, udp_Head.mk t.e3.e0 t.e3.e1][t10.toNat]?).bind fun (e : udp_Head) =>
    (icmp_side v6).bind fun s =>
    oreq (decide (0 ≤ s ∧ s < 2)) <|
    ([e.SPort, e.DPort][s.toNat]?).bind fun (e1 : Int) =>
    cond (e1 == typ)
      (
      (icmp_fits t10 code v6).bind fun f =>
      cond (f)
        (
        some (.inr (t10)))
        (
        some (.inl (wI .i64 (t10 + 1)))))
      (
      some (.inl (wI .i64 (t10 + 1)))))
    (
    some (.inr (4)))
def icmp_kindF (icmp_fits : Int → Int → Bool → Option Bool) (icmp_side : Bool → Option Int) (icmp_types : Option Arr4_Arr2_Int) (typ : Int) (code : Int) (v6 : Bool) : Option Int :=
  (icmp_types).bind fun t =>
  iter (fun st => icmp_kind_s1 icmp_fits icmp_side typ code v6 t st) FUEL 0
def rx95 (x : Int) : SRes := ⟨.int .i64 x, [], []⟩
def r95 (g : Int → Int → Bool → Option Int) : Dec := dV (asI .i64) fun (y0 : Int) => dV (asI .i64) fun (y1 : Int) => dV asB fun (y2 : Bool) => dEnd (ofG (g y0 y1 y2) rx95)
theorem r95_c {g : Int → Int → Bool → Option Int} {y0 : Int} {y1 : Int} {y2 : Bool} {x : Int} (hx : g y0 y1 y2 = some x) : r95 g [.int .i64 y0, .int .i64 y1, .bool y2] [] = some (rx95 x) := (dV_eq (asI_c _)).trans ((dV_eq (asI_c _)).trans ((dV_eq (asB_c)).trans (ofG_eq hx)))
def s95 (g : Int → Int → Bool → Option Int) : Summ := ⟨[.v, .v, .v], r95 g⟩
theorem r95_eq {g : Int → Int → Bool → Option Int} {y0 : Int} {y1 : Int} {y2 : Bool} {x : Int} (hx : g y0 y1 y2 = some x) : (s95 g).run [.int .i64 y0, .int .i64 y1, .bool y2] [] = some (rx95 x) := r95_c hx
abbrev sums95 (icmp_fits : Int → Int → Bool → Option Bool) (icmp_side : Bool → Option Int) (icmp_types : Option Arr4_Arr2_Int) : List (Nat × Summ) := [(122, s122 icmp_fits), (90, s90 icmp_side), (89, s89 icmp_types)]
def head95_1 (typ : Int) (code : Int) (v6 : Bool) (t : Arr4_Arr2_Int) (t10 : Int) : VM :=
  ⟨⟨95, 28, [(0, .int .i64 typ), (1, .int .i64 code), (2, .bool v6), (9, .agg ⟨[.int .i64 t.e0.e0, .int .i64 t.e0.e1, .int .i64 t.e1.e0, .int .i64 t.e1.e1, .int .i64 t.e2.e0, .int .i64 t.e2.e1, .int .i64 t.e3.e0, .int .i64 t.e3.e1]⟩), (10, .int .i64 t10)], [.code k95_15, .inLoop k95_15, .inBlock 0, .code k95_20], [], false, none⟩, [], [], 0⟩
theorem loop95_1 (icmp_fits : Int → Int → Bool → Option Bool) (icmp_side : Bool → Option Int) (icmp_types : Option Arr4_Arr2_Int) (hS : SumsOK Try.prog (aget (sums95 icmp_fits icmp_side icmp_types))) (typ : Int) (code : Int) (v6 : Bool) (t : Arr4_Arr2_Int) (res : Int) : ∀ fuel (st : Int) (o : Int), iter (fun st => icmp_kind_s1 icmp_fits icmp_side typ code v6 t st) fuel st = some o → (o = res) →
    Leads Try.prog 95 0 (head95_1 typ code v6 t st) (fun v H _ => Res 0 (rx95 res) v H) := by
  intro fuel st o h hc
  refine iter_leads (head := fun st => head95_1 typ code v6 t st) (C := fun o => (o = res)) ?_ fuel st o h hc
  clear h hc o st fuel
  intro t10 o h hc
  replace h : icmp_kind_s1 icmp_fits icmp_side typ code v6 t t10 = some o := h
  show Leads Try.prog 95 0 (head95_1 typ code v6 t t10) (fun v H _ => Res 0 (rx95 res) v H)
  unfold icmp_kind_s1 at h
  refine ev_ok tab_ok hS true 3000 ?_
  conv => whnf
  refine br.h2 h ?_ ?_ ?_
  · rfl
  · clear h; intro hb h; conv => whnf
    all_goals (cases h; cases hc; exact Res.z rfl rfl rfl)
  clear h; intro hb h; conv => whnf
  replace h := oreq.elim h; obtain ⟨hb, h⟩ := h
  replace h := obind.elim h; obtain ⟨e, hy, h⟩ := h
  refine ix_T (xs := [udp_Head.mk t.e0.e0 t.e0.e1, udp_Head.mk t.e1.e0 t.e1.e1, udp_Head.mk t.e2.e0 t.e2.e1, udp_Head.mk t.e3.e0 t.e3.e1]) cudp_Head_len hb hy rfl rfl ?_
  conv => whnf
  replace h := obind.elim h; obtain ⟨s, hy, h⟩ := h
  refine sumK.q rfl rfl (r90_eq hy) rfl rfl rfl ?_
  conv => whnf
  replace h := oreq.elim h; obtain ⟨hb, h⟩ := h
  first | (refine req.intro hb ?_; conv => whnf) | skip
  replace h := obind.elim h; obtain ⟨e1, hy, h⟩ := h
  refine rd.intro (rdlI hy (by first | rfl | (rw [Nat.zero_add, Nat.mul_one]; done) | omega)) ?_
  conv => whnf
  refine br.h2 h ?_ ?_ ?_
  · rfl
  · clear h; intro hb h; conv => whnf
    cases h; simp only [Sum.elim_inl, head95_1] at hc
    refine Leads.re hc [] rfl ?_ ?_ <;> (repeat' first | exact trivial | refine ⟨⟨_, rfl, rfl⟩, ?_⟩ | refine ⟨⟨_, _, rfl, rfl, .rowF (vI_flat _ _) id⟩, ?_⟩ | refine ⟨⟨_, _, rfl, rfl, .rowF (vS_flat _) id⟩, ?_⟩ | refine ⟨⟨_, _, rfl, rfl, .rowF (vB_flat _) id⟩, ?_⟩ | refine ⟨⟨_, _, rfl, rfl, .rowF (vT_flat (by first | exact cicmp_Message_flat | exact capi_Addr_flat | exact coctet_Reader_flat | exact cArr2_Int_flat | exact cArr4_Arr2_Int_flat | exact cruntime_errorAddressString_flat | exact cudp_Head_flat | exact cipsix_Head_flat | exact cipfour_Head_flat | exact capi_Tuple_flat | exact ctcp_Head_flat) _) id⟩, ?_⟩ | refine ⟨⟨_, _, rfl, rfl, .tyF (vI_flat _ _)⟩, ?_⟩ | refine ⟨⟨_, _, rfl, rfl, .ty rfl⟩, ?_⟩ | refine ⟨⟨_, _, rfl, rfl, .cells rfl⟩, ?_⟩ | refine ⟨⟨_, _, rfl, rfl, .row rfl id⟩, ?_⟩ | refine ⟨⟨_, _, rfl, rfl, .cr rfl⟩, ?_⟩ | refine ⟨⟨_, _, rfl, rfl, .rc rfl⟩, ?_⟩ | refine ⟨⟨_, _, rfl, rfl, .marks⟩, ?_⟩ | refine ⟨⟨_, _, rfl, rfl, .siter _ _⟩, ?_⟩ | refine ⟨⟨_, _, rfl, rfl, .loop rfl rfl rfl rfl (by repeat' first | exact trivial | refine ⟨rfl, ?_⟩) rfl rfl rfl rfl⟩, ?_⟩)
  clear h; intro hb h; conv => whnf
  replace h := obind.elim h; obtain ⟨f, hy, h⟩ := h
  refine sumK.q rfl rfl (r122_eq hy) rfl rfl rfl ?_
  conv => whnf
  refine br.h h ?_ ?_ ?_
  · rfl
  · clear h; intro hb h; conv => whnf
    all_goals (cases h; cases hc; exact Res.z rfl rfl rfl)
  clear h; intro hb h; conv => whnf
  cases h; simp only [Sum.elim_inl, head95_1] at hc
  refine Leads.re hc [] rfl ?_ ?_ <;> (repeat' first | exact trivial | refine ⟨⟨_, rfl, rfl⟩, ?_⟩ | refine ⟨⟨_, _, rfl, rfl, .rowF (vI_flat _ _) id⟩, ?_⟩ | refine ⟨⟨_, _, rfl, rfl, .rowF (vS_flat _) id⟩, ?_⟩ | refine ⟨⟨_, _, rfl, rfl, .rowF (vB_flat _) id⟩, ?_⟩ | refine ⟨⟨_, _, rfl, rfl, .rowF (vT_flat (by first | exact cicmp_Message_flat | exact capi_Addr_flat | exact coctet_Reader_flat | exact cArr2_Int_flat | exact cArr4_Arr2_Int_flat | exact cruntime_errorAddressString_flat | exact cudp_Head_flat | exact cipsix_Head_flat | exact cipfour_Head_flat | exact capi_Tuple_flat | exact ctcp_Head_flat) _) id⟩, ?_⟩ | refine ⟨⟨_, _, rfl, rfl, .tyF (vI_flat _ _)⟩, ?_⟩ | refine ⟨⟨_, _, rfl, rfl, .ty rfl⟩, ?_⟩ | refine ⟨⟨_, _, rfl, rfl, .cells rfl⟩, ?_⟩ | refine ⟨⟨_, _, rfl, rfl, .row rfl id⟩, ?_⟩ | refine ⟨⟨_, _, rfl, rfl, .cr rfl⟩, ?_⟩ | refine ⟨⟨_, _, rfl, rfl, .rc rfl⟩, ?_⟩ | refine ⟨⟨_, _, rfl, rfl, .marks⟩, ?_⟩ | refine ⟨⟨_, _, rfl, rfl, .siter _ _⟩, ?_⟩ | refine ⟨⟨_, _, rfl, rfl, .loop rfl rfl rfl rfl (by repeat' first | exact trivial | refine ⟨rfl, ?_⟩) rfl rfl rfl rfl⟩, ?_⟩)
theorem leads95 (icmp_fits : Int → Int → Bool → Option Bool) (icmp_side : Bool → Option Int) (icmp_types : Option Arr4_Arr2_Int) (hS : SumsOK Try.prog (aget (sums95 icmp_fits icmp_side icmp_types))) (typ : Int) (code : Int) (v6 : Bool) (res : Int) (h : icmp_kindF icmp_fits icmp_side icmp_types typ code v6 = some res) :
    Leads Try.prog 95 0 ⟨⟨95, 28, [(0, .int .i64 typ), (1, .int .i64 code), (2, .bool v6)], [.code k95_22], [], false, none⟩, [], [], 0⟩ (fun v H _ => Res 0 (rx95 res) v H) := by
  unfold icmp_kindF at h
  refine ev_ok tab_ok hS true 3000 ?_
  conv => whnf
  replace h := obind.elim h; obtain ⟨t, hy, h⟩ := h
  refine sumK.q rfl rfl (r89_eq hy) rfl rfl rfl ?_
  conv => whnf
  have hl := loop95_1 icmp_fits icmp_side icmp_types hS _ _ _ _ res _ _ _ h rfl; simp only [head95_1] at hl
  refine Leads.re hl [] rfl ?_ ?_ <;> (repeat' first | exact trivial | refine ⟨⟨_, rfl, rfl⟩, ?_⟩ | refine ⟨⟨_, _, rfl, rfl, .rowF (vI_flat _ _) id⟩, ?_⟩ | refine ⟨⟨_, _, rfl, rfl, .rowF (vS_flat _) id⟩, ?_⟩ | refine ⟨⟨_, _, rfl, rfl, .rowF (vB_flat _) id⟩, ?_⟩ | refine ⟨⟨_, _, rfl, rfl, .rowF (vT_flat (by first | exact cicmp_Message_flat | exact capi_Addr_flat | exact coctet_Reader_flat | exact cArr2_Int_flat | exact cArr4_Arr2_Int_flat | exact cruntime_errorAddressString_flat | exact cudp_Head_flat | exact cipsix_Head_flat | exact cipfour_Head_flat | exact capi_Tuple_flat | exact ctcp_Head_flat) _) id⟩, ?_⟩ | refine ⟨⟨_, _, rfl, rfl, .tyF (vI_flat _ _)⟩, ?_⟩ | refine ⟨⟨_, _, rfl, rfl, .ty rfl⟩, ?_⟩ | refine ⟨⟨_, _, rfl, rfl, .cells rfl⟩, ?_⟩ | refine ⟨⟨_, _, rfl, rfl, .row rfl id⟩, ?_⟩ | refine ⟨⟨_, _, rfl, rfl, .cr rfl⟩, ?_⟩ | refine ⟨⟨_, _, rfl, rfl, .rc rfl⟩, ?_⟩ | refine ⟨⟨_, _, rfl, rfl, .marks⟩, ?_⟩ | refine ⟨⟨_, _, rfl, rfl, .siter _ _⟩, ?_⟩ | refine ⟨⟨_, _, rfl, rfl, .loop rfl rfl rfl rfl (by repeat' first | exact trivial | refine ⟨rfl, ?_⟩) rfl rfl rfl rfl⟩, ?_⟩)
theorem ok95 (icmp_fits : Int → Int → Bool → Option Bool) (icmp_side : Bool → Option Int) (icmp_types : Option Arr4_Arr2_Int) (hS : SumsOK Try.prog (aget (sums95 icmp_fits icmp_side icmp_types))) : SumOK Try.prog 95 (s95 (icmp_kindF icmp_fits icmp_side icmp_types)) := by
  refine SumOK.of_leads tab_ok (fun ar os r ha hr => ?_) ⟨Try.f95, rfl, by decide, rfl⟩
  replace hr : r95 (icmp_kindF icmp_fits icmp_side icmp_types) ar (conts os) = some r := hr
  unfold r95 at hr
  generalize hc : conts os = C at hr
  replace hr := dV.elim hr; obtain ⟨v0, l1, y0, rfl, e0, hr⟩ := hr; obtain rfl := asI_eq _ _ _ e0
  replace hr := dV.elim hr; obtain ⟨v1, l2, y1, rfl, e1, hr⟩ := hr; obtain rfl := asI_eq _ _ _ e1
  replace hr := dV.elim hr; obtain ⟨v2, l3, y2, rfl, e2, hr⟩ := hr; obtain rfl := asB_eq _ _ e2
  replace hr := dFin hr; obtain ⟨rfl, rfl, x, h, rfl⟩ := hr
  obtain rfl := kinds_nil hc
  exact ⟨_, rfl, leads95 icmp_fits icmp_side icmp_types hS _ _ _ x h⟩
def icmp_kind : Int → Int → Bool → Option Int := icmp_kindF icmp_fits icmp_side icmp_types
theorem lift95 : SumOK Try.prog 95 (s95 icmp_kind) := ok95 icmp_fits icmp_side icmp_types (SumsOK.of_tab ⟨lift122, lift90, lift89, trivial⟩)
def octet_Reader_RestF (octet_Reader_Bad : octet_Reader → Option (Bool × octet_Reader)) (octet_Reader_Text : octet_Reader → Int → Option ((List UInt8) × octet_Reader)) (ra0 : octet_Reader) : Option ((List UInt8) × octet_Reader) :=
  (octet_Reader_Bad ra0).bind fun b =>
  cond (b.1)
    (
    some (([], b.2)))
    (
    (octet_Reader_Text b.2 (b.2.s.length : Int)).bind fun t =>
    some ((t.1, t.2)))
def rx96 (x : (List UInt8) × octet_Reader) : SRes := ⟨.string ⟨⟨x.1⟩⟩, [], [some [.string ⟨⟨x.2.s⟩⟩, .bool x.2.made, .bool x.2.bad]]⟩
def r96 (g : octet_Reader → Option ((List UInt8) × octet_Reader)) : Dec := dPt 0 unoctet_Reader fun (y0 : octet_Reader) => dEnd (ofG (g y0) rx96)
theorem r96_c {g : octet_Reader → Option ((List UInt8) × octet_Reader)} {y0 : octet_Reader} {x : (List UInt8) × octet_Reader} (hx : g y0 = some x) : r96 g [.pointer (some ⟨0, 0, none⟩)] [some [.string ⟨⟨y0.s⟩⟩, .bool y0.made, .bool y0.bad]] = some (rx96 x) := (dPt_eq (unoctet_Reader_c _)).trans (ofG_eq hx)
def s96 (g : octet_Reader → Option ((List UInt8) × octet_Reader)) : Summ := ⟨[.pt 3], r96 g⟩
theorem r96_eq {g : octet_Reader → Option ((List UInt8) × octet_Reader)} {y0 : octet_Reader} {x : (List UInt8) × octet_Reader} (hx : g y0 = some x) : (s96 g).run [.pointer (some ⟨0, 0, none⟩)] [some [.string ⟨⟨y0.s⟩⟩, .bool y0.made, .bool y0.bad]] = some (rx96 x) := r96_c hx
abbrev sums96 (octet_Reader_Bad : octet_Reader → Option (Bool × octet_Reader)) (octet_Reader_Text : octet_Reader → Int → Option ((List UInt8) × octet_Reader)) : List (Nat × Summ) := [(72, s72 octet_Reader_Bad), (83, s83 octet_Reader_Text)]
theorem leads96 (octet_Reader_Bad : octet_Reader → Option (Bool × octet_Reader)) (octet_Reader_Text : octet_Reader → Int → Option ((List UInt8) × octet_Reader)) (hS : SumsOK Try.prog (aget (sums96 octet_Reader_Bad octet_Reader_Text))) (ra0 : octet_Reader) (res : (List UInt8) × octet_Reader) (h : octet_Reader_RestF octet_Reader_Bad octet_Reader_Text ra0 = some res) :
    Leads Try.prog 96 1 ⟨⟨96, 12, [(0, .pointer (some ⟨0, 0, none⟩))], [.code k96_9], [], false, none⟩, [], [(0, .cells [.string ⟨⟨ra0.s⟩⟩, .bool ra0.made, .bool ra0.bad])], 1⟩ (fun v H _ => Res 1 (rx96 res) v H) := by
  unfold octet_Reader_RestF at h
  refine ev_ok tab_ok hS true 3000 ?_
  conv => whnf
  replace h := obind.elim h; obtain ⟨b, hy, h⟩ := h
  refine sumK.introF [0] (sumRun_of (aqs := [.pointer (some ⟨0, 0, none⟩)]) (ws := [.win 0 0 3 true]) (n := 0) (m := 0) (t' := 1) (ra_cons rfl rfl ra_nil) rfl (by rfl) (r72_eq hy) rfl rfl rfl rfl (wb_win rfl rfl rfl ⟨rfl, Nat.le_of_ble_eq_true rfl⟩ rfl rfl wb_nil) an_nil rfl) ?_
  conv => whnf
  refine br.h h ?_ ?_ ?_
  · rfl
  · clear h; intro hb h; conv => whnf
    all_goals (cases h)
    all_goals exact Res.of [] rfl nw_0 (by decide) js_0 (wr_s (rfl) (hs_cells rfl) wr_0)
  clear h; intro hb h; conv => whnf
  replace h := obind.elim h; obtain ⟨t, hy, h⟩ := h
  refine sumK.introF [0] (sumRun_of (aqs := [.pointer (some ⟨0, 0, none⟩), .int .i64 (b.2.s.length : Int)]) (ws := [.win 0 0 3 true]) (n := 0) (m := 0) (t' := 1) (ra_cons rfl rfl (ra_cons rfl rfl ra_nil)) rfl (by rfl) (r83_eq hy) rfl rfl rfl rfl (wb_win rfl rfl rfl ⟨rfl, Nat.le_of_ble_eq_true rfl⟩ rfl rfl wb_nil) an_nil rfl) ?_
  conv => whnf
  all_goals (cases h)
  all_goals exact Res.of [] rfl nw_0 (by decide) js_0 (wr_s (rfl) (hs_cells rfl) wr_0)
theorem ok96 (octet_Reader_Bad : octet_Reader → Option (Bool × octet_Reader)) (octet_Reader_Text : octet_Reader → Int → Option ((List UInt8) × octet_Reader)) (hS : SumsOK Try.prog (aget (sums96 octet_Reader_Bad octet_Reader_Text))) : SumOK Try.prog 96 (s96 (octet_Reader_RestF octet_Reader_Bad octet_Reader_Text)) := by
  refine SumOK.of_leads tab_ok (fun ar os r ha hr => ?_) ⟨Try.f96, rfl, by decide, rfl⟩
  replace hr : r96 (octet_Reader_RestF octet_Reader_Bad octet_Reader_Text) ar (conts os) = some r := hr
  unfold r96 at hr
  generalize hc : conts os = C at hr
  have hq := dPt.elim hr; clear hr; obtain ⟨c0, l1, C, y0, rfl, rfl, e0, hr⟩ := hq; obtain rfl := unoctet_Reader_eq _ _ e0
  replace hr := dFin hr; obtain ⟨rfl, rfl, x, h, rfl⟩ := hr
  obtain ⟨os, rfl, ha, hc⟩ := kinds_some ha hc
  obtain rfl := kinds_nil hc
  exact ⟨_, rfl, leads96 octet_Reader_Bad octet_Reader_Text hS _ x h⟩
def octet_Reader_Rest : octet_Reader → Option ((List UInt8) × octet_Reader) := octet_Reader_RestF octet_Reader_Bad octet_Reader_Text
theorem lift96 : SumOK Try.prog 96 (s96 octet_Reader_Rest) := ok96 octet_Reader_Bad octet_Reader_Text (SumsOK.of_tab ⟨lift72, lift83, trivial⟩)
def icmp_GetF (check_Right : (List UInt8) → Option Bool) (icmp_kind : Int → Int → Bool → Option Int) (icmp_over : api_Addr → api_Addr → Int → Option ((List UInt8) × Bool)) (octet_New : (List UInt8) → Option octet_Reader) (octet_Reader_Num : octet_Reader → Int → Option (Int × octet_Reader)) (octet_Reader_Rest : octet_Reader → Option ((List UInt8) × octet_Reader)) (s : List UInt8) (src : api_Addr) (dst : api_Addr) : Option (icmp_Message × Int) :=
  cond (decide ((s.length : Int) < 8))
    (
    some ((icmp_Message.mk 0 0 0 [], 2)))
    (
    (icmp_over src dst (s.length : Int)).bind fun xo =>
    cond (!xo.2)
      (
      some ((icmp_Message.mk 0 0 0 [], 1)))
      (
      oreq (decide (xo.1.length + s.length < 2 ^ 63)) <|
      (check_Right (xo.1 ++ s)).bind fun xr =>
      cond (!xr)
        (
        some ((icmp_Message.mk 0 0 0 [], 4)))
        (
        cond (decide ((s.length : Int) > 1240))
          (
          some ((icmp_Message.mk 0 0 0 [], 5)))
          (
          (octet_New s).bind fun n =>
          (octet_Reader_Num n 1).bind fun n1 =>
          (octet_Reader_Num n1.2 1).bind fun n2 =>
          (octet_Reader_Num n2.2 4).bind fun n3 =>
          (icmp_kind n1.1 n2.1 src.V6).bind fun k =>
          (octet_Reader_Num n3.2 2).bind fun n4 =>
          cond (k == 2)
            (
            (octet_Reader_Rest n4.2).bind fun xr1 =>
            some ((icmp_Message.mk k n2.1 n4.1 xr1.1, 0)))
            (
            (octet_Reader_Rest n4.2).bind fun xr2 =>
            some ((icmp_Message.mk k n2.1 0 xr2.1, 0)))))))
def rx34 (x : icmp_Message × Int) : SRes := ⟨.tuple ⟨[.agg ⟨[.int .i64 x.1.Kind, .int .i64 x.1.Code, .int .i64 x.1.MTU, .string ⟨⟨x.1.Quote⟩⟩]⟩, .int .i64 x.2]⟩, [], []⟩
def r34 (g : (List UInt8) → api_Addr → api_Addr → Option (icmp_Message × Int)) : Dec := dV asS fun (y0 : List UInt8) => dV uvapi_Addr fun (y1 : api_Addr) => dV uvapi_Addr fun (y2 : api_Addr) => dEnd (ofG (g y0 y1 y2) rx34)
theorem r34_c {g : (List UInt8) → api_Addr → api_Addr → Option (icmp_Message × Int)} {y0 : List UInt8} {y1 : api_Addr} {y2 : api_Addr} {x : icmp_Message × Int} (hx : g y0 y1 y2 = some x) : r34 g [.string ⟨⟨y0⟩⟩, .agg ⟨[.bool y1.V6, .int .u64 y1.Hi, .int .u64 y1.Lo]⟩, .agg ⟨[.bool y2.V6, .int .u64 y2.Hi, .int .u64 y2.Lo]⟩] [] = some (rx34 x) := (dV_eq (asS_c)).trans ((dV_eq (uvapi_Addr_c _)).trans ((dV_eq (uvapi_Addr_c _)).trans (ofG_eq hx)))
def s34 (g : (List UInt8) → api_Addr → api_Addr → Option (icmp_Message × Int)) : Summ := ⟨[.v, .v, .v], r34 g⟩
theorem r34_eq {g : (List UInt8) → api_Addr → api_Addr → Option (icmp_Message × Int)} {y0 : List UInt8} {y1 : api_Addr} {y2 : api_Addr} {x : icmp_Message × Int} (hx : g y0 y1 y2 = some x) : (s34 g).run [.string ⟨⟨y0⟩⟩, .agg ⟨[.bool y1.V6, .int .u64 y1.Hi, .int .u64 y1.Lo]⟩, .agg ⟨[.bool y2.V6, .int .u64 y2.Hi, .int .u64 y2.Lo]⟩] [] = some (rx34 x) := r34_c hx
abbrev sums34 (check_Right : (List UInt8) → Option Bool) (icmp_kind : Int → Int → Bool → Option Int) (icmp_over : api_Addr → api_Addr → Int → Option ((List UInt8) × Bool)) (octet_New : (List UInt8) → Option octet_Reader) (octet_Reader_Num : octet_Reader → Int → Option (Int × octet_Reader)) (octet_Reader_Rest : octet_Reader → Option ((List UInt8) × octet_Reader)) : List (Nat × Summ) := [(73, s73 check_Right), (95, s95 icmp_kind), (87, s87 icmp_over), (70, s70 octet_New), (71, s71 octet_Reader_Num), (96, s96 octet_Reader_Rest)]
theorem leads34 (check_Right : (List UInt8) → Option Bool) (icmp_kind : Int → Int → Bool → Option Int) (icmp_over : api_Addr → api_Addr → Int → Option ((List UInt8) × Bool)) (octet_New : (List UInt8) → Option octet_Reader) (octet_Reader_Num : octet_Reader → Int → Option (Int × octet_Reader)) (octet_Reader_Rest : octet_Reader → Option ((List UInt8) × octet_Reader)) (hS : SumsOK Try.prog (aget (sums34 check_Right icmp_kind icmp_over octet_New octet_Reader_Num octet_Reader_Rest))) (s : List UInt8) (src : api_Addr) (dst : api_Addr) (res : icmp_Message × Int) (h : icmp_GetF check_Right icmp_kind icmp_over octet_New octet_Reader_Num octet_Reader_Rest s src dst = some res) :
    Leads Try.prog 34 0 ⟨⟨34, 69, [(0, .string ⟨⟨s⟩⟩), (1, .agg ⟨[.bool src.V6, .int .u64 src.Hi, .int .u64 src.Lo]⟩), (2, .agg ⟨[.bool dst.V6, .int .u64 dst.Hi, .int .u64 dst.Lo]⟩)], [.code k34_45], [], false, none⟩, [], [], 0⟩ (fun v H _ => Res 0 (rx34 res) v H) := by
  unfold icmp_GetF at h
  refine ev_ok tab_ok hS true 3000 ?_
  conv => whnf
  refine br.h h ?_ ?_ ?_
  · rfl
  · clear h; intro hb h; conv => whnf
    all_goals (cases h; exact Res.z rfl rfl rfl)
  clear h; intro hb h; conv => whnf
  replace h := obind.elim h; obtain ⟨xo, hy, h⟩ := h
  refine sumK.q rfl rfl (r87_eq hy) rfl rfl rfl ?_
  conv => whnf
  refine br.h h ?_ ?_ ?_
  · rfl
  · clear h; intro hb h; conv => whnf
    all_goals (cases h; exact Res.z rfl rfl rfl)
  clear h; intro hb h; conv => whnf
  replace h := oreq.elim h; obtain ⟨hb, h⟩ := h
  first | (refine req.intro hb ?_; conv => whnf) | skip
  replace h := obind.elim h; obtain ⟨xr, hy, h⟩ := h
  refine sumK.q rfl rfl (r73_eq hy) rfl rfl rfl ?_
  conv => whnf
  refine br.h h ?_ ?_ ?_
  · rfl
  · clear h; intro hb h; conv => whnf
    all_goals (cases h; exact Res.z rfl rfl rfl)
  clear h; intro hb h; conv => whnf
  refine br.h h ?_ ?_ ?_
  · rfl
  · clear h; intro hb h; conv => whnf
    all_goals (cases h; exact Res.z rfl rfl rfl)
  clear h; intro hb h; conv => whnf
  replace h := obind.elim h; obtain ⟨n, hy, h⟩ := h
  refine sumK.introF [3] (sumRun_of (aqs := [.string ⟨⟨s⟩⟩]) (ws := []) (n := 1) (m := 0) (t' := 4) (ra_cons rfl rfl ra_nil) rfl (by rfl) (r70_eq hy) rfl rfl rfl rfl wb_nil (an_cons (rfl) an_nil) rfl) ?_
  conv => whnf
  replace h := obind.elim h; obtain ⟨n1, hy, h⟩ := h
  refine sumK.introF [3] (sumRun_of (aqs := [.pointer (some ⟨0, 0, none⟩), .int .i64 1]) (ws := [.win 3 0 3 true]) (n := 0) (m := 0) (t' := 4) (ra_cons rfl rfl (ra_cons rfl rfl ra_nil)) rfl (by rfl) (r71_eq hy) rfl rfl rfl rfl (wb_win rfl rfl rfl ⟨rfl, Nat.le_of_ble_eq_true rfl⟩ rfl rfl wb_nil) an_nil rfl) ?_
  conv => whnf
  replace h := obind.elim h; obtain ⟨n2, hy, h⟩ := h
  refine sumK.introF [3] (sumRun_of (aqs := [.pointer (some ⟨0, 0, none⟩), .int .i64 1]) (ws := [.win 3 0 3 true]) (n := 0) (m := 0) (t' := 4) (ra_cons rfl rfl (ra_cons rfl rfl ra_nil)) rfl (by rfl) (r71_eq hy) rfl rfl rfl rfl (wb_win rfl rfl rfl ⟨rfl, Nat.le_of_ble_eq_true rfl⟩ rfl rfl wb_nil) an_nil rfl) ?_
  conv => whnf
  replace h := obind.elim h; obtain ⟨n3, hy, h⟩ := h
  refine sumK.introF [3] (sumRun_of (aqs := [.pointer (some ⟨0, 0, none⟩), .int .i64 4]) (ws := [.win 3 0 3 true]) (n := 0) (m := 0) (t' := 4) (ra_cons rfl rfl (ra_cons rfl rfl ra_nil)) rfl (by rfl) (r71_eq hy) rfl rfl rfl rfl (wb_win rfl rfl rfl ⟨rfl, Nat.le_of_ble_eq_true rfl⟩ rfl rfl wb_nil) an_nil rfl) ?_
  conv => whnf
  replace h := obind.elim h; obtain ⟨k, hy, h⟩ := h
  refine sumK.q rfl rfl (r95_eq hy) rfl rfl rfl ?_
  conv => whnf
  replace h := obind.elim h; obtain ⟨n4, hy, h⟩ := h
  refine sumK.introF [3] (sumRun_of (aqs := [.pointer (some ⟨0, 0, none⟩), .int .i64 2]) (ws := [.win 3 0 3 true]) (n := 0) (m := 0) (t' := 5) (ra_cons rfl rfl (ra_cons rfl rfl ra_nil)) rfl (by rfl) (r71_eq hy) rfl rfl rfl rfl (wb_win rfl rfl rfl ⟨rfl, Nat.le_of_ble_eq_true rfl⟩ rfl rfl wb_nil) an_nil rfl) ?_
  conv => whnf
  refine br.h h ?_ ?_ ?_
  · rfl
  · clear h; intro hb h; conv => whnf
    replace h := obind.elim h; obtain ⟨xr1, hy, h⟩ := h
    refine sumK.introF [3] (sumRun_of (aqs := [.pointer (some ⟨0, 0, none⟩)]) (ws := [.win 3 0 3 true]) (n := 0) (m := 0) (t' := 5) (ra_cons rfl rfl ra_nil) rfl (by rfl) (r96_eq hy) rfl rfl rfl rfl (wb_win rfl rfl rfl ⟨rfl, Nat.le_of_ble_eq_true rfl⟩ rfl rfl wb_nil) an_nil rfl) ?_
    conv => whnf
    all_goals (cases h; exact Res.z rfl rfl rfl)
  clear h; intro hb h; conv => whnf
  replace h := obind.elim h; obtain ⟨xr2, hy, h⟩ := h
  refine sumK.introF [3] (sumRun_of (aqs := [.pointer (some ⟨0, 0, none⟩)]) (ws := [.win 3 0 3 true]) (n := 0) (m := 0) (t' := 5) (ra_cons rfl rfl ra_nil) rfl (by rfl) (r96_eq hy) rfl rfl rfl rfl (wb_win rfl rfl rfl ⟨rfl, Nat.le_of_ble_eq_true rfl⟩ rfl rfl wb_nil) an_nil rfl) ?_
  conv => whnf
  all_goals (cases h; exact Res.z rfl rfl rfl)
theorem ok34 (check_Right : (List UInt8) → Option Bool) (icmp_kind : Int → Int → Bool → Option Int) (icmp_over : api_Addr → api_Addr → Int → Option ((List UInt8) × Bool)) (octet_New : (List UInt8) → Option octet_Reader) (octet_Reader_Num : octet_Reader → Int → Option (Int × octet_Reader)) (octet_Reader_Rest : octet_Reader → Option ((List UInt8) × octet_Reader)) (hS : SumsOK Try.prog (aget (sums34 check_Right icmp_kind icmp_over octet_New octet_Reader_Num octet_Reader_Rest))) : SumOK Try.prog 34 (s34 (icmp_GetF check_Right icmp_kind icmp_over octet_New octet_Reader_Num octet_Reader_Rest)) := by
  refine SumOK.of_leads tab_ok (fun ar os r ha hr => ?_) ⟨Try.f34, rfl, by decide, rfl⟩
  replace hr : r34 (icmp_GetF check_Right icmp_kind icmp_over octet_New octet_Reader_Num octet_Reader_Rest) ar (conts os) = some r := hr
  unfold r34 at hr
  generalize hc : conts os = C at hr
  replace hr := dV.elim hr; obtain ⟨v0, l1, y0, rfl, e0, hr⟩ := hr; obtain rfl := asS_eq _ _ e0
  replace hr := dV.elim hr; obtain ⟨v1, l2, y1, rfl, e1, hr⟩ := hr; obtain rfl := uvapi_Addr_eq _ _ e1
  replace hr := dV.elim hr; obtain ⟨v2, l3, y2, rfl, e2, hr⟩ := hr; obtain rfl := uvapi_Addr_eq _ _ e2
  replace hr := dFin hr; obtain ⟨rfl, rfl, x, h, rfl⟩ := hr
  obtain rfl := kinds_nil hc
  exact ⟨_, rfl, leads34 check_Right icmp_kind icmp_over octet_New octet_Reader_Num octet_Reader_Rest hS _ _ _ x h⟩
def icmp_Get : (List UInt8) → api_Addr → api_Addr → Option (icmp_Message × Int) := icmp_GetF check_Right icmp_kind icmp_over octet_New octet_Reader_Num octet_Reader_Rest
theorem lift34 : SumOK Try.prog 34 (s34 icmp_Get) := ok34 check_Right icmp_kind icmp_over octet_New octet_Reader_Num octet_Reader_Rest (SumsOK.of_tab ⟨lift73, lift95, lift87, lift70, lift71, lift96, trivial⟩)
def law53_awakeF (icmp_Get : (List UInt8) → api_Addr → api_Addr → Option (icmp_Message × Int)) (icmp_Put : icmp_Message → api_Addr → api_Addr → Option ((List UInt8) × Int)) : Option Bool :=
  (icmp_Get [] (api_Addr.mk false 0 0) (api_Addr.mk false 0 0)).bind fun xg =>
  (icmp_Put (icmp_Message.mk 2 4 1400 []) (api_Addr.mk false 0 1) (api_Addr.mk false 0 2)).bind fun p =>
  (icmp_Get p.1 (api_Addr.mk false 0 1) (api_Addr.mk false 0 2)).bind fun xg1 =>
  cond (xg.2 == 2)
    (
    cond (p.2 == 0)
      (
      cond ((p.1.length : Int) == 8)
        (
        cond (xg1.2 == 0)
          (
          cond (xg1.1.MTU == 1400)
            (
            cond (xg1.1.Kind == 2)
              (
              some (true))
              (
              some (false)))
            (
            some (false)))
          (
          some (false)))
        (
        some (false)))
      (
      some (false)))
    (
    some (false))
def rx30 (x : Bool) : SRes := ⟨.bool x, [], []⟩
def r30 (g : Option Bool) : Dec := dEnd (ofG (g) rx30)
theorem r30_c {g : Option Bool} {x : Bool} (hx : g = some x) : r30 g [] [] = some (rx30 x) := ofG_eq hx
def s30 (g : Option Bool) : Summ := ⟨[], r30 g⟩
theorem r30_eq {g : Option Bool} {x : Bool} (hx : g = some x) : (s30 g).run [] [] = some (rx30 x) := r30_c hx
abbrev sums30 (icmp_Get : (List UInt8) → api_Addr → api_Addr → Option (icmp_Message × Int)) (icmp_Put : icmp_Message → api_Addr → api_Addr → Option ((List UInt8) × Int)) : List (Nat × Summ) := [(34, s34 icmp_Get), (31, s31 icmp_Put)]
theorem leads30 (icmp_Get : (List UInt8) → api_Addr → api_Addr → Option (icmp_Message × Int)) (icmp_Put : icmp_Message → api_Addr → api_Addr → Option ((List UInt8) × Int)) (hS : SumsOK Try.prog (aget (sums30 icmp_Get icmp_Put))) (res : Bool) (h : law53_awakeF icmp_Get icmp_Put = some res) :
    Leads Try.prog 30 0 ⟨⟨30, 54, [], [.code k30_9], [], false, none⟩, [], [], 0⟩ (fun v H _ => Res 0 (rx30 res) v H) := by
  unfold law53_awakeF at h
  refine ev_ok tab_ok hS true 3000 ?_
  conv => whnf
  replace h := obind.elim h; obtain ⟨xg, hy, h⟩ := h
  refine sumK.q rfl rfl (r34_eq hy) rfl rfl rfl ?_
  conv => whnf
  replace h := obind.elim h; obtain ⟨p, hy, h⟩ := h
  refine sumK.q rfl rfl (r31_eq hy) rfl rfl rfl ?_
  conv => whnf
  replace h := obind.elim h; obtain ⟨xg1, hy, h⟩ := h
  refine sumK.q rfl rfl (r34_eq hy) rfl rfl rfl ?_
  conv => whnf
  refine br.h2 h ?_ ?_ ?_
  · rfl
  · clear h; intro hb h; conv => whnf
    all_goals (cases h; exact Res.z rfl rfl rfl)
  clear h; intro hb h; conv => whnf
  refine br.h2 h ?_ ?_ ?_
  · rfl
  · clear h; intro hb h; conv => whnf
    all_goals (cases h; exact Res.z rfl rfl rfl)
  clear h; intro hb h; conv => whnf
  refine br.h2 h ?_ ?_ ?_
  · rfl
  · clear h; intro hb h; conv => whnf
    all_goals (cases h; exact Res.z rfl rfl rfl)
  clear h; intro hb h; conv => whnf
  refine br.h2 h ?_ ?_ ?_
  · rfl
  · clear h; intro hb h; conv => whnf
    all_goals (cases h; exact Res.z rfl rfl rfl)
  clear h; intro hb h; conv => whnf
  refine br.h2 h ?_ ?_ ?_
  · rfl
  · clear h; intro hb h; conv => whnf
    all_goals (cases h; exact Res.z rfl rfl rfl)
  clear h; intro hb h; conv => whnf
  refine br.h h ?_ ?_ ?_
  · rfl
  · clear h; intro hb h; conv => whnf
    all_goals (cases h; exact Res.z rfl rfl rfl)
  clear h; intro hb h; conv => whnf
  all_goals (cases h; exact Res.z rfl rfl rfl)
theorem ok30 (icmp_Get : (List UInt8) → api_Addr → api_Addr → Option (icmp_Message × Int)) (icmp_Put : icmp_Message → api_Addr → api_Addr → Option ((List UInt8) × Int)) (hS : SumsOK Try.prog (aget (sums30 icmp_Get icmp_Put))) : SumOK Try.prog 30 (s30 (law53_awakeF icmp_Get icmp_Put)) := by
  refine SumOK.of_leads tab_ok (fun ar os r ha hr => ?_) ⟨Try.f30, rfl, by decide, rfl⟩
  replace hr : r30 (law53_awakeF icmp_Get icmp_Put) ar (conts os) = some r := hr
  unfold r30 at hr
  generalize hc : conts os = C at hr
  replace hr := dFin hr; obtain ⟨rfl, rfl, x, h, rfl⟩ := hr
  obtain rfl := kinds_nil hc
  exact ⟨_, rfl, leads30 icmp_Get icmp_Put hS x h⟩
def law53_awake : Option Bool := law53_awakeF icmp_Get icmp_Put
theorem lift30 : SumOK Try.prog 30 (s30 law53_awake) := ok30 icmp_Get icmp_Put (SumsOK.of_tab ⟨lift34, lift31, trivial⟩)
def law53_ofF (m : icmp_Message) : Option icmp_Message :=
  some (m)
def rx32 (x : icmp_Message) : SRes := ⟨.agg ⟨[.int .i64 x.Kind, .int .i64 x.Code, .int .i64 x.MTU, .string ⟨⟨x.Quote⟩⟩]⟩, [], []⟩
def r32 (g : icmp_Message → Option icmp_Message) : Dec := dV uvicmp_Message fun (y0 : icmp_Message) => dEnd (ofG (g y0) rx32)
theorem r32_c {g : icmp_Message → Option icmp_Message} {y0 : icmp_Message} {x : icmp_Message} (hx : g y0 = some x) : r32 g [.agg ⟨[.int .i64 y0.Kind, .int .i64 y0.Code, .int .i64 y0.MTU, .string ⟨⟨y0.Quote⟩⟩]⟩] [] = some (rx32 x) := (dV_eq (uvicmp_Message_c _)).trans (ofG_eq hx)
def s32 (g : icmp_Message → Option icmp_Message) : Summ := ⟨[.v], r32 g⟩
theorem r32_eq {g : icmp_Message → Option icmp_Message} {y0 : icmp_Message} {x : icmp_Message} (hx : g y0 = some x) : (s32 g).run [.agg ⟨[.int .i64 y0.Kind, .int .i64 y0.Code, .int .i64 y0.MTU, .string ⟨⟨y0.Quote⟩⟩]⟩] [] = some (rx32 x) := r32_c hx
abbrev sums32 : List (Nat × Summ) := []
theorem leads32 (hS : SumsOK Try.prog (aget (sums32))) (m : icmp_Message) (res : icmp_Message) (h : law53_ofF m = some res) :
    Leads Try.prog 32 0 ⟨⟨32, 12, [(0, .agg ⟨[.int .i64 m.Kind, .int .i64 m.Code, .int .i64 m.MTU, .string ⟨⟨m.Quote⟩⟩]⟩)], [.code k32_3], [], false, none⟩, [], [], 0⟩ (fun v H _ => Res 0 (rx32 res) v H) := by
  unfold law53_ofF at h
  refine ev_ok tab_ok hS true 3000 ?_
  conv => whnf
  all_goals (cases h; exact Res.z rfl rfl rfl)
theorem ok32 (hS : SumsOK Try.prog (aget (sums32))) : SumOK Try.prog 32 (s32 (law53_ofF)) := by
  refine SumOK.of_leads tab_ok (fun ar os r ha hr => ?_) ⟨Try.f32, rfl, by decide, rfl⟩
  replace hr : r32 (law53_ofF) ar (conts os) = some r := hr
  unfold r32 at hr
  generalize hc : conts os = C at hr
  replace hr := dV.elim hr; obtain ⟨v0, l1, y0, rfl, e0, hr⟩ := hr; obtain rfl := uvicmp_Message_eq _ _ e0
  replace hr := dFin hr; obtain ⟨rfl, rfl, x, h, rfl⟩ := hr
  obtain rfl := kinds_nil hc
  exact ⟨_, rfl, leads32 hS _ x h⟩
def law53_of : icmp_Message → Option icmp_Message := law53_ofF
theorem lift32 : SumOK Try.prog 32 (s32 law53_of) := ok32 (SumsOK.of_tab trivial)
def law53_IcmpQuotesF (R53_About : icmp_Message → Option (api_Tuple × Bool)) (R53_Quoted : (List UInt8) → Option (api_Tuple × Bool)) (icmp_About : icmp_Message → Option (api_Tuple × Bool)) (icmp_Quoted : (List UInt8) → Option (api_Tuple × Bool)) (law53_awake : Option Bool) (law53_of : icmp_Message → Option icmp_Message) (m : icmp_Message) : Option Bool :=
  cond (decide ((m.Quote.length : Int) > 300))
    (
    (law53_awake).bind fun a =>
    some (a))
    (
    (icmp_Quoted m.Quote).bind fun q =>
    (R53_Quoted m.Quote).bind fun q1 =>
    (law53_of m).bind fun xo =>
    (icmp_About xo).bind fun a1 =>
    (R53_About m).bind fun a2 =>
    let t := (q.1.Proto == q1.1.Proto) && ((q.1.Src.V6 == q1.1.Src.V6) && ((q.1.Src.Hi == q1.1.Src.Hi) && ((q.1.Src.Lo == q1.1.Src.Lo) && ((q.1.Dst.V6 == q1.1.Dst.V6) && ((q.1.Dst.Hi == q1.1.Dst.Hi) && ((q.1.Dst.Lo == q1.1.Dst.Lo) && ((q.1.SPort == q1.1.SPort) && ((q.1.DPort == q1.1.DPort) && true))))))))
    cond (t)
      (
      cond (q.2 == q1.2)
        (
        let t1 := (a1.1.Proto == a2.1.Proto) && ((a1.1.Src.V6 == a2.1.Src.V6) && ((a1.1.Src.Hi == a2.1.Src.Hi) && ((a1.1.Src.Lo == a2.1.Src.Lo) && ((a1.1.Dst.V6 == a2.1.Dst.V6) && ((a1.1.Dst.Hi == a2.1.Dst.Hi) && ((a1.1.Dst.Lo == a2.1.Dst.Lo) && ((a1.1.SPort == a2.1.SPort) && ((a1.1.DPort == a2.1.DPort) && true))))))))
        cond (t1)
          (
          cond (a1.2 == a2.2)
            (
            (law53_awake).bind fun a3 =>
            some (a3))
            (
            some (false)))
          (
          some (false)))
        (
        some (false)))
      (
      some (false)))
def rx9 (x : Bool) : SRes := ⟨.bool x, [], []⟩
def r9 (g : icmp_Message → Option Bool) : Dec := dV uvicmp_Message fun (y0 : icmp_Message) => dEnd (ofG (g y0) rx9)
theorem r9_c {g : icmp_Message → Option Bool} {y0 : icmp_Message} {x : Bool} (hx : g y0 = some x) : r9 g [.agg ⟨[.int .i64 y0.Kind, .int .i64 y0.Code, .int .i64 y0.MTU, .string ⟨⟨y0.Quote⟩⟩]⟩] [] = some (rx9 x) := (dV_eq (uvicmp_Message_c _)).trans (ofG_eq hx)
def s9 (g : icmp_Message → Option Bool) : Summ := ⟨[.v], r9 g⟩
theorem r9_eq {g : icmp_Message → Option Bool} {y0 : icmp_Message} {x : Bool} (hx : g y0 = some x) : (s9 g).run [.agg ⟨[.int .i64 y0.Kind, .int .i64 y0.Code, .int .i64 y0.MTU, .string ⟨⟨y0.Quote⟩⟩]⟩] [] = some (rx9 x) := r9_c hx
abbrev sums9 (R53_About : icmp_Message → Option (api_Tuple × Bool)) (R53_Quoted : (List UInt8) → Option (api_Tuple × Bool)) (icmp_About : icmp_Message → Option (api_Tuple × Bool)) (icmp_Quoted : (List UInt8) → Option (api_Tuple × Bool)) (law53_awake : Option Bool) (law53_of : icmp_Message → Option icmp_Message) : List (Nat × Summ) := [(42, s42 R53_About), (40, s40 R53_Quoted), (41, s41 icmp_About), (39, s39 icmp_Quoted), (30, s30 law53_awake), (32, s32 law53_of)]
theorem leads9 (R53_About : icmp_Message → Option (api_Tuple × Bool)) (R53_Quoted : (List UInt8) → Option (api_Tuple × Bool)) (icmp_About : icmp_Message → Option (api_Tuple × Bool)) (icmp_Quoted : (List UInt8) → Option (api_Tuple × Bool)) (law53_awake : Option Bool) (law53_of : icmp_Message → Option icmp_Message) (hS : SumsOK Try.prog (aget (sums9 R53_About R53_Quoted icmp_About icmp_Quoted law53_awake law53_of))) (m : icmp_Message) (res : Bool) (h : law53_IcmpQuotesF R53_About R53_Quoted icmp_About icmp_Quoted law53_awake law53_of m = some res) :
    Leads Try.prog 9 0 ⟨⟨9, 60, [(0, .agg ⟨[.int .i64 m.Kind, .int .i64 m.Code, .int .i64 m.MTU, .string ⟨⟨m.Quote⟩⟩]⟩)], [.code k9_17], [], false, none⟩, [], [], 0⟩ (fun v H _ => Res 0 (rx9 res) v H) := by
  unfold law53_IcmpQuotesF at h
  refine ev_ok tab_ok hS true 3000 ?_
  conv => whnf
  refine br.h h ?_ ?_ ?_
  · rfl
  · clear h; intro hb h; conv => whnf
    replace h := obind.elim h; obtain ⟨a, hy, h⟩ := h
    refine sumK.q rfl rfl (r30_eq hy) rfl rfl rfl ?_
    conv => whnf
    all_goals (cases h; exact Res.z rfl rfl rfl)
  clear h; intro hb h; conv => whnf
  replace h := obind.elim h; obtain ⟨q, hy, h⟩ := h
  refine sumK.q rfl rfl (r39_eq hy) rfl rfl rfl ?_
  conv => whnf
  replace h := obind.elim h; obtain ⟨q1, hy, h⟩ := h
  refine sumK.q rfl rfl (r40_eq hy) rfl rfl rfl ?_
  conv => whnf
  replace h := obind.elim h; obtain ⟨xo, hy, h⟩ := h
  refine sumK.q rfl rfl (r32_eq hy) rfl rfl rfl ?_
  conv => whnf
  replace h := obind.elim h; obtain ⟨a1, hy, h⟩ := h
  refine sumK.q rfl rfl (r41_eq hy) rfl rfl rfl ?_
  conv => whnf
  replace h := obind.elim h; obtain ⟨a2, hy, h⟩ := h
  refine sumK.q rfl rfl (r42_eq hy) rfl rfl rfl ?_
  conv => whnf
  let t : Bool := (q.1.Proto == q1.1.Proto) && ((q.1.Src.V6 == q1.1.Src.V6) && ((q.1.Src.Hi == q1.1.Src.Hi) && ((q.1.Src.Lo == q1.1.Src.Lo) && ((q.1.Dst.V6 == q1.1.Dst.V6) && ((q.1.Dst.Hi == q1.1.Dst.Hi) && ((q.1.Dst.Lo == q1.1.Dst.Lo) && ((q.1.SPort == q1.1.SPort) && ((q.1.DPort == q1.1.DPort) && true))))))))
  refine br.h2 h ?_ ?_ ?_
  · rfl
  · clear h; intro hb h; conv => whnf
    all_goals (cases h; exact Res.z rfl rfl rfl)
  clear h; intro hb h; conv => whnf
  refine br.h2 h ?_ ?_ ?_
  · rfl
  · clear h; intro hb h; conv => whnf
    all_goals (cases h; exact Res.z rfl rfl rfl)
  clear h; intro hb h; conv => whnf
  let t1 : Bool := (a1.1.Proto == a2.1.Proto) && ((a1.1.Src.V6 == a2.1.Src.V6) && ((a1.1.Src.Hi == a2.1.Src.Hi) && ((a1.1.Src.Lo == a2.1.Src.Lo) && ((a1.1.Dst.V6 == a2.1.Dst.V6) && ((a1.1.Dst.Hi == a2.1.Dst.Hi) && ((a1.1.Dst.Lo == a2.1.Dst.Lo) && ((a1.1.SPort == a2.1.SPort) && ((a1.1.DPort == a2.1.DPort) && true))))))))
  refine br.h2 h ?_ ?_ ?_
  · rfl
  · clear h; intro hb h; conv => whnf
    all_goals (cases h; exact Res.z rfl rfl rfl)
  clear h; intro hb h; conv => whnf
  refine br.h2 h ?_ ?_ ?_
  · rfl
  · clear h; intro hb h; conv => whnf
    all_goals (cases h; exact Res.z rfl rfl rfl)
  clear h; intro hb h; conv => whnf
  replace h := obind.elim h; obtain ⟨a3, hy, h⟩ := h
  refine sumK.q rfl rfl (r30_eq hy) rfl rfl rfl ?_
  conv => whnf
  all_goals (cases h; exact Res.z rfl rfl rfl)
theorem ok9 (R53_About : icmp_Message → Option (api_Tuple × Bool)) (R53_Quoted : (List UInt8) → Option (api_Tuple × Bool)) (icmp_About : icmp_Message → Option (api_Tuple × Bool)) (icmp_Quoted : (List UInt8) → Option (api_Tuple × Bool)) (law53_awake : Option Bool) (law53_of : icmp_Message → Option icmp_Message) (hS : SumsOK Try.prog (aget (sums9 R53_About R53_Quoted icmp_About icmp_Quoted law53_awake law53_of))) : SumOK Try.prog 9 (s9 (law53_IcmpQuotesF R53_About R53_Quoted icmp_About icmp_Quoted law53_awake law53_of)) := by
  refine SumOK.of_leads tab_ok (fun ar os r ha hr => ?_) ⟨Try.f9, rfl, by decide, rfl⟩
  replace hr : r9 (law53_IcmpQuotesF R53_About R53_Quoted icmp_About icmp_Quoted law53_awake law53_of) ar (conts os) = some r := hr
  unfold r9 at hr
  generalize hc : conts os = C at hr
  replace hr := dV.elim hr; obtain ⟨v0, l1, y0, rfl, e0, hr⟩ := hr; obtain rfl := uvicmp_Message_eq _ _ e0
  replace hr := dFin hr; obtain ⟨rfl, rfl, x, h, rfl⟩ := hr
  obtain rfl := kinds_nil hc
  exact ⟨_, rfl, leads9 R53_About R53_Quoted icmp_About icmp_Quoted law53_awake law53_of hS _ x h⟩
def law53_IcmpQuotes : icmp_Message → Option Bool := law53_IcmpQuotesF R53_About R53_Quoted icmp_About icmp_Quoted law53_awake law53_of
theorem lift9 : SumOK Try.prog 9 (s9 law53_IcmpQuotes) := ok9 R53_About R53_Quoted icmp_About icmp_Quoted law53_awake law53_of (SumsOK.of_tab ⟨lift42, lift40, lift41, lift39, lift30, lift32, trivial⟩)
end Go.Vm.Code
namespace Go.Vm
open Go
theorem wI64 {n : Int} (h1 : -9223372036854775808 ≤ n) (h2 : n < 9223372036854775808) : wI .i64 n = n := by
  show IntKind.wrap .i64 n = n; rw [IntKind.wrap_i64]; omega
theorem wU64 {n : Int} (h1 : 0 ≤ n) (h2 : n < 18446744073709551616) : wI .u64 n = n := by
  show IntKind.wrap .u64 n = n
  simp only [IntKind.wrap, IntKind.bits, IntKind.signed]; simp; omega
theorem wU32 {n : Int} (h1 : 0 ≤ n) (h2 : n < 4294967296) : wI .u32 n = n := by
  show IntKind.wrap .u32 n = n
  simp only [IntKind.wrap, IntKind.bits, IntKind.signed]; simp; omega
theorem wU16 {n : Int} (h1 : 0 ≤ n) (h2 : n < 65536) : wI .u16 n = n := by
  show IntKind.wrap .u16 n = n
  simp only [IntKind.wrap, IntKind.bits, IntKind.signed]; simp; omega
theorem wU8 {n : Int} (h1 : 0 ≤ n) (h2 : n < 256) : wI .u8 n = n := by
  show IntKind.wrap .u8 n = n
  simp only [IntKind.wrap, IntKind.bits, IntKind.signed]; simp; omega
theorem wU64m (n : Int) : wI .u64 n = n % 18446744073709551616 := by
  show IntKind.wrap .u64 n = _
  simp only [IntKind.wrap, IntKind.bits, IntKind.signed]; simp
theorem wU32m (n : Int) : wI .u32 n = n % 4294967296 := by
  show IntKind.wrap .u32 n = _
  simp only [IntKind.wrap, IntKind.bits, IntKind.signed]; simp
theorem wU16m (n : Int) : wI .u16 n = n % 65536 := by
  show IntKind.wrap .u16 n = _
  simp only [IntKind.wrap, IntKind.bits, IntKind.signed]; simp
theorem wU8m (n : Int) : wI .u8 n = n % 256 := by
  show IntKind.wrap .u8 n = _
  simp only [IntKind.wrap, IntKind.bits, IntKind.signed]; simp
theorem bv64 {n : Nat} (h : n < 18446744073709551616) : (BitVec.ofInt 64 (n : Int)).toNat = n := by
  rw [BitVec.toNat_ofInt]; omega
theorem andI64 {a b : Nat} (ha : a < 9223372036854775808) (hb : b < 9223372036854775808) : andI .i64 (a : Int) (b : Int) = ((a &&& b : Nat) : Int) := by
  have h : a &&& b ≤ a := Nat.and_le_left
  show IntKind.wrap .i64 _ = _
  rw [show IntKind.bits .i64 = 64 from rfl, BitVec.toNat_and, bv64 (by omega), bv64 (by omega)]
  exact wI64 (by omega) (by omega)
theorem iorI64 {a b : Nat} (ha : a < 9223372036854775808) (hb : b < 9223372036854775808) : iorI .i64 (a : Int) (b : Int) = ((a ||| b : Nat) : Int) := by
  have h : a ||| b < 2 ^ 63 := Nat.or_lt_two_pow (by omega) (by omega)
  show IntKind.wrap .i64 _ = _
  rw [show IntKind.bits .i64 = 64 from rfl, BitVec.toNat_or, bv64 (by omega), bv64 (by omega)]
  exact wI64 (by omega) (by omega)
theorem andU64 {a b : Nat} (ha : a < 18446744073709551616) (hb : b < 18446744073709551616) : andI .u64 (a : Int) (b : Int) = ((a &&& b : Nat) : Int) := by
  have h : a &&& b ≤ a := Nat.and_le_left
  show IntKind.wrap .u64 _ = _
  rw [show IntKind.bits .u64 = 64 from rfl, BitVec.toNat_and, bv64 (by omega), bv64 (by omega)]
  exact wU64 (by omega) (by omega)
theorem iorU64 {a b : Nat} (ha : a < 18446744073709551616) (hb : b < 18446744073709551616) : iorI .u64 (a : Int) (b : Int) = ((a ||| b : Nat) : Int) := by
  have h : a ||| b < 2 ^ 64 := Nat.or_lt_two_pow (by omega) (by omega)
  show IntKind.wrap .u64 _ = _
  rw [show IntKind.bits .u64 = 64 from rfl, BitVec.toNat_or, bv64 (by omega), bv64 (by omega)]
  exact wU64 (by omega) (by omega)
theorem ixorU64 {a b : Nat} (ha : a < 18446744073709551616) (hb : b < 18446744073709551616) : ixorI .u64 (a : Int) (b : Int) = ((a ^^^ b : Nat) : Int) := by
  have h : a ^^^ b < 2 ^ 64 := Nat.xor_lt_two_pow (by omega) (by omega)
  show IntKind.wrap .u64 _ = _
  rw [show IntKind.bits .u64 = 64 from rfl, BitVec.toNat_xor, bv64 (by omega), bv64 (by omega)]
  exact wU64 (by omega) (by omega)
theorem and_mask (a k : Nat) : a &&& (2 ^ k - 1) = a % 2 ^ k := Nat.and_two_pow_sub_one_eq_mod a k
theorem or_low {a b k : Nat} (hb : b < 2 ^ k) : (a * 2 ^ k) ||| b = a * 2 ^ k + b := by
  rw [Nat.mul_comm]; exact (Nat.two_pow_add_eq_or_of_lt hb a).symm
theorem andI64_mask (k : Nat) {a m : Int} (hm : m = 2 ^ k - 1) (hk : k ≤ 62) (h0 : 0 ≤ a) (h1 : a < 9223372036854775808) : andI .i64 a m = a % 2 ^ k := by
  obtain ⟨n, rfl⟩ := Int.eq_ofNat_of_zero_le h0
  have hp : 2 ^ k ≤ 2 ^ 62 := Nat.pow_le_pow_right (by decide) hk
  have hp1 : 1 ≤ 2 ^ k := Nat.one_le_two_pow
  have : m = ((2 ^ k - 1 : Nat) : Int) := by rw [hm]; push_cast [hp1]; rfl
  rw [this, andI64 (by omega) (by omega), and_mask]; push_cast; rfl
theorem andU64_mask (k : Nat) {a m : Int} (hm : m = 2 ^ k - 1) (hk : k ≤ 64) (h0 : 0 ≤ a) (h1 : a < 18446744073709551616) : andI .u64 a m = a % 2 ^ k := by
  obtain ⟨n, rfl⟩ := Int.eq_ofNat_of_zero_le h0
  have hp : 2 ^ k ≤ 2 ^ 64 := Nat.pow_le_pow_right (by decide) hk
  have hp1 : 1 ≤ 2 ^ k := Nat.one_le_two_pow
  have : m = ((2 ^ k - 1 : Nat) : Int) := by rw [hm]; push_cast [hp1]; rfl
  rw [this, andU64 (by omega) (by omega), and_mask]; push_cast; rfl
theorem iorI64_low (k : Nat) {a b : Int} (h0 : 0 ≤ a) (h1 : a * 2 ^ k < 9223372036854775808) (hb0 : 0 ≤ b) (hb : b < 2 ^ k) (hb1 : b < 9223372036854775808) : iorI .i64 (a * 2 ^ k) b = a * 2 ^ k + b := by
  obtain ⟨n, rfl⟩ := Int.eq_ofNat_of_zero_le h0
  obtain ⟨m, rfl⟩ := Int.eq_ofNat_of_zero_le hb0
  have e : ((n : Int) * 2 ^ k) = ((n * 2 ^ k : Nat) : Int) := by push_cast; rfl
  rw [e] at h1 ⊢
  rw [iorI64 (by omega) (by omega), or_low (by exact_mod_cast hb)]; push_cast; rfl
theorem iorU64_low (k : Nat) {a b : Int} (h0 : 0 ≤ a) (h1 : a * 2 ^ k < 18446744073709551616) (hb0 : 0 ≤ b) (hb : b < 2 ^ k) (hb1 : b < 18446744073709551616) : iorI .u64 (a * 2 ^ k) b = a * 2 ^ k + b := by
  obtain ⟨n, rfl⟩ := Int.eq_ofNat_of_zero_le h0
  obtain ⟨m, rfl⟩ := Int.eq_ofNat_of_zero_le hb0
  have e : ((n : Int) * 2 ^ k) = ((n * 2 ^ k : Nat) : Int) := by push_cast; rfl
  rw [e] at h1 ⊢
  rw [iorU64 (by omega) (by omega), or_low (by exact_mod_cast hb)]; push_cast; rfl
theorem fdivP (a : Int) (k : Nat) : a.fdiv (2 ^ k) = a / 2 ^ k := Int.fdiv_eq_ediv_of_nonneg a (Int.le_of_lt (Int.pow_pos (by decide)))
theorem oreq_p {α : Type} {p : Prop} [Decidable p] {x : Option α} (h : p) : oreq (decide p) x = x := oreq.mk (decide_eq_true h)
theorem cond_p {α : Type} {p : Prop} [Decidable p] {x y : α} (h : p) : cond (decide p) x y = x := by rw [decide_eq_true h, cond_true]
theorem cond_n {α : Type} {p : Prop} [Decidable p] {x y : α} (h : ¬ p) : cond (decide p) x y = y := by rw [decide_eq_false h, cond_false]
theorem cond_dec {α : Type} {p : Prop} [Decidable p] {x y : α} : cond (decide p) x y = if p then x else y := by
  by_cases h : p <;> simp [h]
theorem iter_eq {σ ρ : Type} {step : σ → Option (Sum σ ρ)} (F : σ → ρ) (P : σ → Prop) (μ : σ → Nat)
    (h : ∀ s, P s → step s = some (.inr (F s)) ∨ ∃ s', step s = some (.inl s') ∧ P s' ∧ μ s' < μ s ∧ F s' = F s) : ∀ n s, P s → μ s < n → iter step n s = some (F s)
  | 0, s, hp, hn => by omega
  | n + 1, s, hp, hn => by
    rw [iter]
    rcases h s hp with e | ⟨s', e, hp', hm, hf⟩
    · rw [e]
    · rw [e]; exact hf ▸ iter_eq F P μ h n s' hp' (by omega)
theorem FUEL_eq : FUEL = 18446744073709551616 := rfl
end Go.Vm
namespace Go.Vm.Code
open Go Go.Vm
def wsum : List UInt8 → Nat
  | [] => 0
  | [b] => b.toNat * 256
  | b :: c :: l => b.toNat * 256 + c.toNat + wsum l
def norm (n : Nat) : Nat := if n = 0 then 0 else (n - 1) % 65535 + 1
theorem norm_eq {n r : Nat} (h1 : r ≤ 65535) (h2 : r % 65535 = n % 65535) (h3 : r = 0 ↔ n = 0) : norm n = r := by unfold norm; split <;> omega
theorem norm_le (n : Nat) : norm n ≤ 65535 := by unfold norm; split <;> omega
theorem norm_mod (n : Nat) : norm n % 65535 = n % 65535 := by unfold norm; split <;> omega
theorem norm_zero (n : Nat) : norm n = 0 ↔ n = 0 := by unfold norm; split <;> omega
theorem norm_same {n : Nat} (h : n ≤ 65535) : norm n = n := norm_eq h rfl Iff.rfl
theorem norm_add (a b : Nat) : norm (norm a + b) = norm (a + b) :=
  (norm_eq (norm_le _) (by have h1 := norm_mod a; have h2 := norm_mod (norm a + b); omega) (by have h1 := norm_zero a; have h2 := norm_zero (norm a + b); omega)).symm
theorem fold_eq {n : Int} (h0 : 0 ≤ n) (h1 : n < 2 ^ 62) : check_fold n = some ((norm n.toNat : Nat) : Int) := by
  unfold check_fold check_foldF
  refine iter_eq (fun n => ((norm n.toNat : Nat) : Int)) (fun n => 0 ≤ n ∧ n < 2 ^ 62) (fun n => n.toNat) ?_ FUEL _ ⟨h0, h1⟩ (by rw [FUEL_eq]; omega)
  intro s ⟨a, b⟩
  unfold check_fold_s1
  by_cases hs : s > 65535
  · refine .inr ⟨s % 65536 + s / 65536, ?_, ⟨by omega, by omega⟩, by omega, ?_⟩
    · rw [cond_p hs, andI64_mask (m := 65535) 16 (by decide) (by decide) a (by omega), fdivP, wI64 (by omega) (by omega)]; rfl
    · have : norm (s % 65536 + s / 65536).toNat = norm s.toNat :=
        (norm_eq (norm_le _) (by have := norm_mod (s % 65536 + s / 65536).toNat; omega) (by have := norm_zero (s % 65536 + s / 65536).toNat; omega)).symm
      rw [this]
  · refine .inl ?_
    rw [cond_n hs]
    have := norm_same (n := s.toNat) (by omega)
    simp only [this]
    rw [Int.toNat_of_nonneg a]
theorem wsum_two {s : List UInt8} {i : Nat} (h : i + 1 < s.length) : wsum (s.drop i) = s[i].toNat * 256 + s[i + 1].toNat + wsum (s.drop (i + 2)) := by
  rw [List.drop_eq_getElem_cons (by omega : i < s.length), List.drop_eq_getElem_cons h]; rfl
theorem wsum_one {s : List UInt8} {i : Nat} (h : i + 1 = s.length) : wsum (s.drop i) = s[i].toNat * 256 := by
  rw [List.drop_eq_getElem_cons (by omega : i < s.length), List.drop_eq_nil_of_le (by omega)]; rfl
theorem wsum_none {s : List UInt8} {i : Nat} (h : s.length ≤ i) : wsum (s.drop i) = 0 := by
  rw [List.drop_eq_nil_of_le h]; rfl
theorem sum_eq (s : List UInt8) (h : s.length < 2 ^ 61) : check_Sum s = some ((norm (wsum s) : Nat) : Int) := by
  unfold check_Sum check_SumF
  have key := iter_eq (step := fun (st : Int × Int) => check_Sum_s1 check_fold s st.1 st.2) (fun (st : Int × Int) => ((norm (st.2.toNat + wsum (s.drop st.1.toNat)) : Nat) : Int)) (fun (st : Int × Int) => 0 ≤ st.1 ∧ st.1 ≤ s.length + 1 ∧ 0 ≤ st.2 ∧ st.2 ≤ 65535) (fun (st : Int × Int) => (s.length + 2 - st.1).toNat) ?_ FUEL (0, 0) ⟨by simp, by simp; omega, by simp, by simp⟩ (by rw [FUEL_eq]; simp only; omega)
  · rw [key]; simp
  rintro ⟨p, n⟩ ⟨h1, h2, h3, h4⟩
  simp only at h1 h2 h3 h4 ⊢
  obtain ⟨i, rfl⟩ := Int.eq_ofNat_of_zero_le h1
  obtain ⟨m, rfl⟩ := Int.eq_ofNat_of_zero_le h3
  unfold check_Sum_s1
  by_cases hp : i < s.length
  · by_cases hq : i + 1 < s.length
    · have b1 := s[i].toNat_lt
      have b2 := s[i + 1].toNat_lt
      refine .inr ⟨(((i + 2 : Nat) : Int), ((norm (m + (s[i].toNat * 256 + s[i + 1].toNat)) : Nat) : Int)), ?_, ⟨by simp only; omega, by simp only; omega, by simp only; omega, by simp only; have := norm_le (m + (s[i].toNat * 256 + s[i + 1].toNat)); omega⟩, by simp only; omega, ?_⟩
      · simp (disch := omega) only [wI64, oreq_p, cond_p]
        have e : ((i : Int) + 1).toNat = i + 1 := by omega
        rw [e]
        simp (disch := omega) only [Int.toNat_natCast, List.getElem?_eq_getElem, Option.bind_some, iorI64_low, wI64, fold_eq]
        congr 3 <;> omega
      · simp only [Int.toNat_natCast]
        rw [norm_add, wsum_two hq, Nat.add_assoc]
    · have b1 := s[i].toNat_lt
      refine .inr ⟨(((i + 2 : Nat) : Int), ((norm (m + s[i].toNat * 256) : Nat) : Int)), ?_, ⟨by simp only; omega, by simp only; omega, by simp only; omega, by simp only; have := norm_le (m + s[i].toNat * 256); omega⟩, by simp only; omega, ?_⟩
      · simp (disch := omega) only [wI64, oreq_p, cond_p, cond_n, Int.toNat_natCast, List.getElem?_eq_getElem, Option.bind_some, fold_eq]
        congr 3 <;> omega
      · simp only [Int.toNat_natCast]
        rw [norm_add, wsum_none (i := i + 2) (by omega), Nat.add_zero, wsum_one (i := i) (by omega)]
  · refine .inl ?_
    simp (disch := omega) only [cond_n]
    simp only [Int.toNat_natCast]
    rw [wsum_none (by omega), Nat.add_zero, norm_same (by omega)]
theorem wsum_append : ∀ (a b : List UInt8), a.length % 2 = 0 → wsum (a ++ b) = wsum a + wsum b
  | [], b, _ => by simp [wsum]
  | [_], b, h => by simp at h
  | x :: y :: a, b, h => by
    have := wsum_append a b (by simp at h; omega)
    simp only [List.cons_append, wsum, this]; omega
def allz (l : List UInt8) : Bool := l.all fun b => b == 0
theorem wsum_zero : ∀ a : List UInt8, a.length % 2 = 0 → (wsum a = 0 ↔ allz a = true)
  | [], _ => by simp [wsum, allz]
  | [_], h => by simp at h
  | x :: y :: a, h => by
    have h1 := wsum_zero a (by simp at h; omega)
    have ex : (x == 0) = true ↔ x.toNat = 0 := by rw [beq_iff_eq]; exact ⟨fun e => by rw [e]; rfl, fun e => UInt8.toNat_inj.1 e⟩
    have ey : (y == 0) = true ↔ y.toNat = 0 := by rw [beq_iff_eq]; exact ⟨fun e => by rw [e]; rfl, fun e => UInt8.toNat_inj.1 e⟩
    have e : allz (x :: y :: a) = (x == 0 && (y == 0 && allz a)) := rfl
    rw [e, Bool.and_eq_true, Bool.and_eq_true, ex, ey, ← h1, wsum]
    omega
theorem take1 {l : List UInt8} {i : Nat} (h : i < l.length) : (l.drop i).take 1 = [l[i]] := by
  rw [List.drop_eq_getElem_cons h]; rfl
theorem take2 {l : List UInt8} {i : Nat} (h : i + 1 < l.length) : l.take (i + 2) = l.take i ++ [l[i], l[i + 1]] := by
  have e1 := List.take_succ_eq_append_getElem h
  have e2 := List.take_succ_eq_append_getElem (show i < l.length by omega)
  rw [show i + 2 = (i + 1) + 1 from rfl, e1, e2, List.append_assoc]; rfl
theorem bz (b : UInt8) : ((b.toNat : Int) == 0) = (b == 0) := by
  by_cases h : b = 0
  · subst h; rfl
  · have : b.toNat ≠ 0 := fun e => h (UInt8.toNat_inj.1 e)
    rw [beq_eq_false_iff_ne.2 h]; simp; exact this
end Go.Vm.Code
namespace Go.Vm
open Go
def be (n : Nat) : Nat → List UInt8
  | 0 => []
  | r + 1 => UInt8.ofNat (n / 256 ^ r) :: be n r
def valL (l : List UInt8) : Nat := l.foldl (fun n b => n * 256 + b.toNat) 0
@[simp] theorem be_len (n : Nat) : ∀ k, (be n k).length = k
  | 0 => rfl
  | k + 1 => by simp [be, be_len n k]
theorem be_snoc (n : Nat) : ∀ k, be n (k + 1) = be (n / 256) k ++ [UInt8.ofNat n]
  | 0 => by simp [be]
  | k + 1 => by
    rw [be, be_snoc n k, be, Nat.div_div_eq_div_mul, Nat.pow_succ, Nat.mul_comm 256]; rfl
theorem be_mod (n : Nat) : ∀ k, be (n % 256 ^ k) k = be n k
  | 0 => rfl
  | k + 1 => by
    rw [be_snoc, be_snoc, Nat.pow_succ, Nat.mul_comm, Nat.mod_mul_right_div_self, be_mod (n / 256) k]
    congr 2
    apply UInt8.toNat_inj.1
    simp only [UInt8.toNat_ofNat']
    rw [Nat.mod_mul_right_mod]
theorem val_foldl (l : List UInt8) : ∀ n : Nat, l.foldl (fun n b => n * 256 + b.toNat) n = n * 256 ^ l.length + valL l := by
  induction l with
  | nil => intro n; simp [valL]
  | cons b l ih =>
    intro n
    rw [valL, List.foldl_cons, ih, List.foldl_cons, ih, List.length_cons, Nat.pow_succ]
    rw [Nat.zero_mul, Nat.zero_add, Nat.add_mul, Nat.mul_assoc, Nat.mul_comm (256 ^ _) 256, Nat.add_assoc]
@[simp] theorem val_nil : valL [] = 0 := rfl
theorem val_cons (b : UInt8) (l : List UInt8) : valL (b :: l) = b.toNat * 256 ^ l.length + valL l := by
  rw [valL, List.foldl_cons, val_foldl]; simp
theorem val_append (l m : List UInt8) : valL (l ++ m) = valL l * 256 ^ m.length + valL m := by
  rw [valL, List.foldl_append, val_foldl]; rfl
theorem val_snoc (l : List UInt8) (b : UInt8) : valL (l ++ [b]) = valL l * 256 + b.toNat := by
  rw [val_append]; simp [val_cons]
theorem val_lt : ∀ l : List UInt8, valL l < 256 ^ l.length
  | [] => by simp
  | b :: l => by
    have h := val_lt l
    have hb := b.toNat_lt
    rw [val_cons, List.length_cons, Nat.pow_succ]
    have : b.toNat * 256 ^ l.length + 256 ^ l.length ≤ 256 * 256 ^ l.length := by
      rw [← Nat.succ_mul]; exact Nat.mul_le_mul_right _ (by omega)
    rw [Nat.mul_comm (256 ^ l.length)]; omega
theorem val_be (n : Nat) : ∀ k, valL (be n k) = n % 256 ^ k
  | 0 => by simp [be, Nat.mod_one]
  | k + 1 => by
    have e : n % 256 ^ (k + 1) = n % 256 + 256 * (n / 256 % 256 ^ k) := by rw [Nat.pow_succ', Nat.mod_mul]
    rw [be_snoc, val_snoc, val_be (n / 256) k, UInt8.toNat_ofNat', e]
    generalize n / 256 % 256 ^ k = x
    omega
theorem val_be_lt {n k : Nat} (h : n < 256 ^ k) : valL (be n k) = n := by rw [val_be, Nat.mod_eq_of_lt h]
theorem be_val : ∀ l : List UInt8, be (valL l) l.length = l
  | [] => rfl
  | b :: l => by
    have h := val_lt l
    rw [List.length_cons, be]
    have e1 : valL (b :: l) / 256 ^ l.length = b.toNat := by
      rw [val_cons, Nat.mul_comm, Nat.mul_add_div (Nat.pow_pos (by decide)), Nat.div_eq_of_lt h, Nat.add_zero]
    have e2 : be (valL (b :: l)) l.length = be (valL l) l.length := by
      rw [← be_mod (valL (b :: l)), val_cons, Nat.mul_add_mod', be_mod]
    rw [e1, e2, be_val l]
    simp
theorem be_inj {n m k : Nat} (hn : n < 256 ^ k) (hm : m < 256 ^ k) (h : be n k = be m k) : n = m := by
  rw [← val_be_lt hn, ← val_be_lt hm, h]
theorem be_val' {l : List UInt8} {k : Nat} (h : l.length = k) : be (valL l) k = l := by subst h; exact be_val l
theorem be_of {l : List UInt8} {n k : Nat} (h : l.length = k) (hv : valL l = n) : be n k = l := by subst hv; exact be_val' h
theorem val_take_lt {l : List UInt8} {k : Nat} (n : Nat) (h : 256 ^ k ≤ n) : valL (l.take k) < n := by
  have h1 := val_lt (l.take k)
  have h2 : (l.take k).length ≤ k := List.length_take_le _ _
  exact Nat.lt_of_lt_of_le h1 (Nat.le_trans (Nat.pow_le_pow_right (by decide) h2) h)
theorem be_split (n : Nat) (j : Nat) : ∀ k, be n (j + k) = be (n / 256 ^ k) j ++ be n k
  | 0 => by simp [be]
  | k + 1 => by
    rw [show j + (k + 1) = (j + k) + 1 from rfl, be_snoc, be_split (n / 256) j k, be_snoc n k, Nat.div_div_eq_div_mul, Nat.pow_succ, Nat.mul_comm (256 ^ k), List.append_assoc]
end Go.Vm
namespace Go.Vm.Code
open Go Go.Vm
def putS (n k : Int) : List UInt8 := if 1 ≤ k ∧ k ≤ 8 then be n.toNat k.toNat else []
theorem octet_Put_eq {n k : Int} (h0 : 0 ≤ n) : octet_Put n k = some (putS n k) := by
  unfold octet_Put octet_PutF putS
  by_cases h1 : k < 1
  · rw [cond_p h1, if_neg (by omega)]
  by_cases h2 : k > 8
  · rw [cond_n h1, cond_p h2, if_neg (by omega)]
  rw [cond_n h1, cond_n h2, oreq_p (by omega), if_pos (by omega)]
  obtain ⟨m, rfl⟩ := Int.eq_ofNat_of_zero_le h0
  obtain ⟨j, rfl⟩ := Int.eq_ofNat_of_zero_le (show 0 ≤ k by omega)
  have key := iter_eq (step := fun (st : Int × List Int) => octet_Put_s1 (m : Int) (j : Int) st.1 st.2) (fun st => iB (st.2.take st.1.toNat) ++ be m (j - st.1.toNat)) (fun st => 0 ≤ st.1 ∧ st.1 ≤ j ∧ st.2.length = j) (fun st => (j - st.1).toNat) ?_ FUEL (0, List.replicate (j : Int).toNat 0) ⟨by simp, by simp, by simp⟩ (by rw [FUEL_eq]; simp only; omega)
  · rw [key]; simp [iB]
  rintro ⟨p, b⟩ ⟨g1, g2, g3⟩
  simp only at g1 g2 g3 ⊢
  obtain ⟨i, rfl⟩ := Int.eq_ofNat_of_zero_le g1
  unfold octet_Put_s1
  by_cases hp : i < j
  · refine .inr ⟨(((i + 1 : Nat) : Int), b.set i ((m / 256 ^ (j - 1 - i) % 256 : Nat) : Int)), ?_, ⟨by simp only; omega, by simp only; omega, by simp [g3]⟩, by simp only; omega, ?_⟩
    · simp (disch := omega) only [wI64, oreq_p, cond_p, Int.toNat_natCast]
      have e1 : min (8 * ((j : Int) - 1 - i)).toNat 64 = 8 * (j - 1 - i) := by omega
      have e0 : (2 : Int) ^ (8 * (j - 1 - i)) = ((256 ^ (j - 1 - i) : Nat) : Int) := by rw [show (256 : Nat) = 2 ^ 8 from rfl, ← Nat.pow_mul]; push_cast; rfl
      rw [e1, fdivP, wU8m, e0]
      rfl
    · simp only [Int.toNat_natCast]
      have e2 : j - i = (j - (i + 1)) + 1 := by omega
      have e3 : j - (i + 1) = j - 1 - i := by omega
      have e4 : (b.set i ((m / 256 ^ (j - 1 - i) % 256 : Nat) : Int)).take (i + 1) = b.take i ++ [((m / 256 ^ (j - 1 - i) % 256 : Nat) : Int)] := by
        rw [List.take_succ_eq_append_getElem (by simp; omega), List.take_set_of_le (Nat.le_refl _), List.getElem_set_self]
      rw [e2, e4, be, e3]
      simp only [iB, List.map_append, List.map_cons, List.map_nil, List.append_assoc, List.cons_append, List.nil_append, Int.toNat_natCast]
      congr 2
      apply UInt8.toNat_inj.1
      simp
  · refine .inl ?_
    obtain rfl : i = j := by omega
    simp (disch := omega) only [cond_n, oreq_p, Int.toNat_natCast]
    simp [be]
theorem R02_Put_eq {n k : Int} (h0 : 0 ≤ n) (h1 : n < 2 ^ 64) : R02_Put n k = some (putS n k) := by
  unfold R02_Put R02_PutF putS
  obtain ⟨m, rfl⟩ := Int.eq_ofNat_of_zero_le h0
  by_cases hk : 1 ≤ k ∧ k ≤ 8
  · rw [if_pos hk]
    obtain ⟨j, rfl⟩ := Int.eq_ofNat_of_zero_le (show 0 ≤ k by omega)
    have key := iter_eq (step := fun st => R02_Put_s1 (j : Int) st.1 st.2.1 st.2.2) (fun st => be st.1.toNat (j - st.2.2.toNat) ++ st.2.1) (fun st => 0 ≤ st.1 ∧ st.1 < 2 ^ 64 ∧ 0 ≤ st.2.2 ∧ st.2.2 ≤ j ∧ st.2.1.length < 2 ^ 20 + st.2.2.toNat) (fun st => (j - st.2.2).toNat) ?_ FUEL ((m : Int), [], 0) ⟨by simp, by simp only; omega, by simp, by simp, by simp⟩ (by rw [FUEL_eq]; simp only; omega)
    · rw [key]; simp
    rintro ⟨n, s, p⟩ ⟨g1, g2, g3, g4, g5⟩
    simp only at g1 g2 g3 g4 g5 ⊢
    obtain ⟨i, rfl⟩ := Int.eq_ofNat_of_zero_le g3
    obtain ⟨x, rfl⟩ := Int.eq_ofNat_of_zero_le g1
    unfold R02_Put_s1
    by_cases hp : i < j
    · refine .inr ⟨(((x / 256 : Nat) : Int), UInt8.ofNat x :: s, ((i + 1 : Nat) : Int)), ?_, ⟨by simp only; omega, by simp only; omega, by simp only; omega, by simp only; omega, by simp at g5 ⊢; omega⟩, by simp only; omega, ?_⟩
      · have e1 : (x : Int).tmod 256 = ((x % 256 : Nat) : Int) := by rw [Int.tmod_eq_emod_of_nonneg (by omega)]; rfl
        have e2 : (x : Int).tdiv 256 = ((x / 256 : Nat) : Int) := by rw [Int.tdiv_eq_ediv_of_nonneg (by omega)]; rfl
        rw [cond_p (by omega), cond_p (by omega), e1, e2, wU8 (by omega) (by omega)]
        simp only [List.length_cons, List.length_nil]
        rw [oreq_p (by omega), wU64 (by omega) (by omega), wI64 (by omega) (by omega), Int.toNat_natCast]
        have e3 : UInt8.ofNat (x % 256) = UInt8.ofNat x := by apply UInt8.toNat_inj.1; simp
        rw [e3]; rfl
      · simp only [Int.toNat_natCast]
        have e2 : j - i = (j - (i + 1)) + 1 := by omega
        rw [e2, be_snoc]; simp
    · refine .inl ?_
      obtain rfl : i = j := by omega
      rw [cond_n (by omega)]
      simp [be]
  · rw [if_neg hk]
    show iter _ (18446744073709551615 + 1) _ = _
    rw [iter]
    have : R02_Put_s1 k (m : Int) [] 0 = some (.inr []) := by
      unfold R02_Put_s1
      by_cases h2 : 0 < k
      · rw [cond_p h2, cond_n (by omega)]
      · rw [cond_n h2]
    simp only [this]
def getS (s : List UInt8) (p k : Int) : Int × Bool := if 1 ≤ k ∧ k ≤ 8 ∧ 0 ≤ p ∧ p + k ≤ s.length then (((valL ((s.drop p.toNat).take k.toNat) : Nat) : Int), true) else (0, false)
theorem pow_step {v i : Nat} (h : v < 256 ^ i) (hi : i ≤ 7) : v < 2 ^ 56 := Nat.lt_of_lt_of_le h (by
  have : (256 : Nat) ^ i ≤ 256 ^ 7 := Nat.pow_le_pow_right (by decide) hi
  simpa using this)
theorem octet_Get_eq {s : List UInt8} {p k : Int} (hs : s.length < 2 ^ 61) : octet_Get s p k = some (getS s p k) := by
  unfold octet_Get octet_GetF getS
  by_cases h1 : k < 1
  · rw [cond_p h1, if_neg (by omega)]
  by_cases h2 : k > 8
  · rw [cond_n h1, cond_p h2, if_neg (by omega)]
  by_cases h3 : p < 0
  · rw [cond_n h1, cond_n h2, cond_p h3, if_neg (by omega)]
  rw [cond_n h1, cond_n h2, cond_n h3, wI64 (n := (s.length : Int) - k) (by omega) (by omega)]
  by_cases h4 : (s.length : Int) - k < p
  · simp only []
    rw [cond_p h4, if_neg (by omega)]
  simp only []
  rw [cond_n h4, wI64 (n := p + k) (by omega) (by omega), oreq_p (by omega), if_pos (by omega)]
  obtain ⟨q, rfl⟩ := Int.eq_ofNat_of_zero_le (show 0 ≤ p by omega)
  obtain ⟨j, rfl⟩ := Int.eq_ofNat_of_zero_le (show 0 ≤ k by omega)
  have e : ((q : Int) + j).toNat - (q : Int).toNat = j := by omega
  rw [e]
  simp only [Int.toNat_natCast]
  generalize ht : (s.drop q).take j = t
  have hl : t.length = j := by rw [← ht]; simp; omega
  have key := iter_eq (step := fun st => octet_Get_s1 t st.1 st.2) (fun st => (((st.1.toNat * 256 ^ (j - st.2.toNat) + valL (t.drop st.2.toNat) : Nat) : Int), true)) (fun st => 0 ≤ st.1 ∧ 0 ≤ st.2 ∧ st.2 ≤ j ∧ st.1.toNat < 256 ^ st.2.toNat) (fun st => (j - st.2).toNat) ?_ FUEL (0, 0) ⟨by simp, by simp, by simp, by simp⟩ (by rw [FUEL_eq]; simp only; omega)
  · rw [key]; simp
  rintro ⟨n, x⟩ ⟨g1, g2, g3, g4⟩
  simp only at g1 g2 g3 g4 ⊢
  obtain ⟨i, rfl⟩ := Int.eq_ofNat_of_zero_le g2
  obtain ⟨v, rfl⟩ := Int.eq_ofNat_of_zero_le g1
  simp only [Int.toNat_natCast] at g4 ⊢
  unfold octet_Get_s1
  by_cases hp : i < j
  · have hlt : i < t.length := by omega
    have hb := t[i].toNat_lt
    have hv := pow_step g4 (by omega)
    refine .inr ⟨(((v * 256 + t[i].toNat : Nat) : Int), ((i + 1 : Nat) : Int)), ?_, ⟨by simp only; omega, by simp only; omega, by simp only; omega, ?_⟩, by simp only; omega, ?_⟩
    · rw [cond_p (by omega), oreq_p (by omega)]
      have e1 : (bI t)[(i : Int).toNat]? = some (t[i].toNat : Int) := by simp [bI, hlt]
      rw [e1, Option.bind_some]
      have e2 : iorI .u64 (wI .u64 ((v : Int) * 2 ^ 8)) (wI .u64 (t[i].toNat : Int)) = ((v * 256 + t[i].toNat : Nat) : Int) := by
        rw [wU64 (by omega) (by omega), wU64 (by omega) (by omega), iorU64_low 8 (by omega) (by omega) (by omega) (by omega) (by omega)]; omega
      simp only [e2]
      rw [wI64 (by omega) (by omega)]; rfl
    · simp only [Int.toNat_natCast]
      rw [Nat.pow_succ]; omega
    · simp only [Int.toNat_natCast]
      rw [List.drop_eq_getElem_cons hlt, val_cons]
      have e3 : (t.drop (i + 1)).length = j - (i + 1) := by simp; omega
      have e4 : j - i = (j - (i + 1)) + 1 := by omega
      rw [e3, e4, Nat.pow_succ, Nat.add_mul, Nat.mul_assoc, Nat.mul_comm 256, Nat.add_assoc]
  · refine .inl ?_
    obtain rfl : i = j := by omega
    rw [cond_n (by omega)]
    simp [← hl]
theorem R02_Get_eq {s : List UInt8} {p k : Int} (hs : s.length < 2 ^ 61) : R02_Get s p k = some (getS s p k) := by
  unfold R02_Get R02_GetF getS
  by_cases h1 : k < 1
  · rw [cond_p h1, if_neg (by omega)]
  by_cases h2 : k > 8
  · rw [cond_n h1, cond_p h2, if_neg (by omega)]
  by_cases h3 : p < 0
  · rw [cond_n h1, cond_n h2, cond_p h3, if_neg (by omega)]
  by_cases h5 : p > s.length
  · rw [cond_n h1, cond_n h2, cond_n h3, cond_p h5, if_neg (by omega)]
  rw [cond_n h1, cond_n h2, cond_n h3, cond_n h5, wI64 (n := (s.length : Int) - p) (by omega) (by omega)]
  by_cases h4 : k > (s.length : Int) - p
  · simp only []
    rw [cond_p h4, if_neg (by omega)]
  simp only []
  rw [cond_n h4, if_pos (by omega)]
  obtain ⟨q, rfl⟩ := Int.eq_ofNat_of_zero_le (show 0 ≤ p by omega)
  obtain ⟨j, rfl⟩ := Int.eq_ofNat_of_zero_le (show 0 ≤ k by omega)
  simp only [Int.toNat_natCast]
  generalize ht : (s.drop q).take j = t
  have hl : t.length = j := by rw [← ht]; simp; omega
  have key := iter_eq (step := fun st => R02_Get_s1 s (q : Int) (j : Int) st.1 st.2) (fun st => (((st.1.toNat * 256 ^ (j - st.2.toNat) + valL (t.drop st.2.toNat) : Nat) : Int), true)) (fun st => 0 ≤ st.1 ∧ 0 ≤ st.2 ∧ st.2 ≤ j ∧ st.1.toNat < 256 ^ st.2.toNat) (fun st => (j - st.2).toNat) ?_ FUEL (0, 0) ⟨by simp, by simp, by simp, by simp⟩ (by rw [FUEL_eq]; simp only; omega)
  · rw [key]; simp
  rintro ⟨n, x⟩ ⟨g1, g2, g3, g4⟩
  simp only at g1 g2 g3 g4 ⊢
  obtain ⟨i, rfl⟩ := Int.eq_ofNat_of_zero_le g2
  obtain ⟨v, rfl⟩ := Int.eq_ofNat_of_zero_le g1
  simp only [Int.toNat_natCast] at g4 ⊢
  unfold R02_Get_s1
  by_cases hp : i < j
  · have hlt : i < t.length := by omega
    have hb := t[i].toNat_lt
    have hv := pow_step g4 (by omega)
    refine .inr ⟨(((v * 256 + t[i].toNat : Nat) : Int), ((i + 1 : Nat) : Int)), ?_, ⟨by simp only; omega, by simp only; omega, by simp only; omega, ?_⟩, by simp only; omega, ?_⟩
    · rw [cond_p (by omega), wI64 (n := (q : Int) + i) (by omega) (by omega), oreq_p (by omega)]
      have e0 : ((q : Int) + i).toNat = q + i := by omega
      have e1 : s[q + i]? = some t[i] := by
        subst ht
        rw [List.getElem?_eq_getElem (by omega)]
        simp
      rw [e0, e1, Option.bind_some]
      have e2 : wI .u64 ((wI .u64 ((v : Int) * 256)) + (wI .u64 (t[i].toNat : Int))) = ((v * 256 + t[i].toNat : Nat) : Int) := by
        rw [wU64 (n := (v : Int) * 256) (by omega) (by omega), wU64 (n := (t[i].toNat : Int)) (by omega) (by omega), wU64 (by omega) (by omega)]; omega
      simp only [e2]
      rw [wI64 (by omega) (by omega)]; rfl
    · simp only [Int.toNat_natCast]
      rw [Nat.pow_succ]; omega
    · simp only [Int.toNat_natCast]
      rw [List.drop_eq_getElem_cons hlt, val_cons]
      have e3 : (t.drop (i + 1)).length = j - (i + 1) := by simp; omega
      have e4 : j - i = (j - (i + 1)) + 1 := by omega
      rw [e3, e4, Nat.pow_succ, Nat.add_mul, Nat.mul_assoc, Nat.mul_comm 256, Nat.add_assoc]
  · refine .inl ?_
    obtain rfl : i = j := by omega
    rw [cond_n (by omega)]
    simp [← hl]
theorem R02_Must_eq {s : List UInt8} {p k : Int} (hs : s.length < 2 ^ 61) : R02_Must s p k = some (wI .i64 (getS s p k).1) := by
  unfold R02_Must R02_MustF
  rw [R02_Get_eq hs]; rfl
theorem getS_two {s : List UInt8} {i : Nat} (h : i + 1 < s.length) : getS s (i : Int) 2 = (((s[i].toNat * 256 + s[i + 1].toNat : Nat) : Int), true) := by
  unfold getS
  rw [if_pos (by omega)]
  have e : (s.drop (i : Int).toNat).take (2 : Int).toNat = [s[i], s[i + 1]] := by
    show (s.drop i).take 2 = _
    rw [List.drop_eq_getElem_cons (by omega : i < s.length), List.drop_eq_getElem_cons h]; rfl
  rw [e]; simp [val_cons]
def wordsL : List UInt8 → List Int
  | [] => []
  | [b] => [((b.toNat * 256 : Nat) : Int)]
  | b :: c :: l => ((b.toNat * 256 + c.toNat : Nat) : Int) :: wordsL l
theorem wordsL_two {s : List UInt8} {i : Nat} (h : i + 1 < s.length) : wordsL (s.drop i) = ((s[i].toNat * 256 + s[i + 1].toNat : Nat) : Int) :: wordsL (s.drop (i + 2)) := by
  rw [List.drop_eq_getElem_cons (by omega : i < s.length), List.drop_eq_getElem_cons h]; rfl
theorem wordsL_pad : ∀ s : List UInt8, s.length % 2 = 1 → wordsL (s ++ [0]) = wordsL s
  | [], h => by simp at h
  | [b], _ => by
    show [((b.toNat * 256 + 0 : Nat) : Int)] = [((b.toNat * 256 : Nat) : Int)]
    rw [Nat.add_zero]
  | b :: c :: l, h => by
    have := wordsL_pad l (by simp at h; omega)
    simp only [List.cons_append, wordsL, this]
theorem wordsL_sum : ∀ s : List UInt8, (wordsL s).sum = (wsum s : Int)
  | [] => rfl
  | [b] => by simp only [wordsL, wsum, List.sum_cons, List.sum_nil, Int.add_zero]
  | b :: c :: l => by
    have := wordsL_sum l
    simp only [wordsL, wsum, List.sum_cons, this]; omega
theorem wordsL_rng : ∀ s : List UInt8, ∀ e ∈ wordsL s, 0 ≤ e ∧ e ≤ 65535
  | [], e, h => by simp [wordsL] at h
  | [b], e, h => by simp [wordsL] at h; have := b.toNat_lt; omega
  | b :: c :: l, e, h => by
    simp only [wordsL, List.mem_cons] at h
    rcases h with rfl | h
    · have := b.toNat_lt; have := c.toNat_lt; omega
    · exact wordsL_rng l e h
theorem wordsL_len : ∀ s : List UInt8, (wordsL s).length = (s.length + 1) / 2
  | [] => rfl
  | [b] => by simp [wordsL]
  | b :: c :: l => by
    have := wordsL_len l
    simp only [wordsL, List.length_cons, this]; omega
theorem R03_Words_loop {s : List UInt8} (h : s.length < 2 ^ 40) (he : s.length % 2 = 0) : iter (fun (st : List UInt8 × Int × List Int) => R03_Words_s1 R02_Must st.1 st.2.1 st.2.2) FUEL (s, 0, []) = some (wordsL s) := by
  have key := iter_eq (step := fun (st : List UInt8 × Int × List Int) => R03_Words_s1 R02_Must st.1 st.2.1 st.2.2) (fun st => st.2.2 ++ wordsL (s.drop st.2.1.toNat)) (fun st => st.1 = s ∧ ∃ i : Nat, st.2.1 = i ∧ i % 2 = 0 ∧ i ≤ s.length ∧ st.2.2.length ≤ i) (fun st => (s.length - st.2.1).toNat) ?_ FUEL (s, 0, []) ⟨rfl, 0, rfl, by omega, by omega, by simp⟩ (by rw [FUEL_eq]; simp only; omega)
  · rw [key]; simp
  rintro ⟨s1, p, out⟩ ⟨h1, i, h2, h3, h4, h5⟩
  simp only at h1 h2 h5 ⊢
  subst h1 h2
  unfold R03_Words_s1
  by_cases hi : i < s1.length
  · have hi2 : i + 1 < s1.length := by omega
    refine .inr ⟨(s1, ((i + 2 : Nat) : Int), out ++ [((s1[i].toNat * 256 + s1[i + 1].toNat : Nat) : Int)]), ?_, ⟨rfl, i + 2, rfl, by omega, by omega, by simp; omega⟩, by simp only; omega, ?_⟩
    · have b1 := s1[i].toNat_lt
      have b2 := s1[i + 1].toNat_lt
      rw [cond_p (by omega), R02_Must_eq (by omega), getS_two hi2, Option.bind_some, oreq_p (by omega), wI64 (by omega) (by omega), wI64 (by omega) (by omega)]; rfl
    · simp only [Int.toNat_natCast]
      rw [wordsL_two hi2]; simp
  · refine .inl ?_
    rw [cond_n (by omega)]
    simp [List.drop_eq_nil_of_le (by omega : s1.length ≤ i), wordsL]
theorem R03_Words_eq {s : List UInt8} (h : s.length < 2 ^ 39) : R03_Words s = some (wordsL s) := by
  unfold R03_Words R03_WordsF
  have ea : ((s.length : Int).tmod 2 == 1) = decide (s.length % 2 = 1) := by
    rw [Int.tmod_eq_emod_of_nonneg (by omega), Bool.eq_iff_iff, beq_iff_eq, decide_eq_true_eq]; omega
  rw [ea]
  by_cases h2 : s.length % 2 = 1
  · rw [cond_p h2, oreq_p (by omega), R03_Words_loop (by simp only [List.length_append, List.length_cons, List.length_nil]; omega) (by simp only [List.length_append, List.length_cons, List.length_nil]; omega), wordsL_pad s h2]
  · rw [cond_n h2, R03_Words_loop (by omega) (by omega)]
theorem R03_Add1_eq {l : List Int} {n : Int} (h0 : 0 ≤ n) (h1 : n < 2 ^ 62) : iter (fun st => R03_Add_s1 l st) FUEL n = some ((norm n.toNat : Nat) : Int) := by
  refine iter_eq (fun n => ((norm n.toNat : Nat) : Int)) (fun n => 0 ≤ n ∧ n < 2 ^ 62) (fun n => n.toNat) ?_ FUEL _ ⟨h0, h1⟩ (by rw [FUEL_eq]; omega)
  intro s ⟨a, b⟩
  unfold R03_Add_s1
  by_cases hs : s > 65535
  · refine .inr ⟨s % 65536 + s / 65536, ?_, ⟨by omega, by omega⟩, by omega, ?_⟩
    · rw [cond_p hs, Int.tdiv_eq_ediv_of_nonneg a, Int.tmod_eq_emod_of_nonneg a, wI64 (n := s / 65536) (by omega) (by omega), wI64 (by omega) (by omega)]
    · have : norm (s % 65536 + s / 65536).toNat = norm s.toNat :=
        (norm_eq (norm_le _) (by have := norm_mod (s % 65536 + s / 65536).toNat; omega) (by have := norm_zero (s % 65536 + s / 65536).toNat; omega)).symm
      rw [this]
  · refine .inl ?_
    rw [cond_n hs]
    have := norm_same (n := s.toNat) (by omega)
    simp only [this]
    rw [Int.toNat_of_nonneg a]
theorem sum_nonneg : ∀ {l : List Int}, (∀ e ∈ l, 0 ≤ e ∧ e ≤ 65535) → 0 ≤ l.sum
  | [], _ => by simp
  | x :: l, h => by
    have h1 := h x (by simp)
    have h2 := sum_nonneg (l := l) fun e he => h e (by simp [he])
    simp only [List.sum_cons]; omega
theorem R03_Add_eq {l : List Int} (hl : l.length < 2 ^ 40) (hr : ∀ e ∈ l, 0 ≤ e ∧ e ≤ 65535) : R03_Add l = some ((norm l.sum.toNat : Nat) : Int) := by
  unfold R03_Add R03_AddF
  have key := iter_eq (step := fun (st : Int × Int) => R03_Add_s2 l st.1 st.2) (fun st => ((norm (st.1 + (l.drop st.2.toNat).sum).toNat : Nat) : Int)) (fun st => 0 ≤ st.1 ∧ 0 ≤ st.2 ∧ st.2 ≤ l.length ∧ st.1 ≤ st.2 * 65535) (fun st => (l.length - st.2).toNat) ?_ FUEL (0, 0) ⟨by simp, by simp, by simp, by simp⟩ (by rw [FUEL_eq]; simp only; omega)
  · rw [key]; simp
  rintro ⟨n, p⟩ ⟨g1, g2, g3, g4⟩
  simp only at g1 g2 g3 g4 ⊢
  obtain ⟨i, rfl⟩ := Int.eq_ofNat_of_zero_le g2
  simp only [Int.toNat_natCast]
  unfold R03_Add_s2
  by_cases hi : i < l.length
  · have hx := hr l[i] (List.getElem_mem hi)
    refine .inr ⟨(n + l[i], ((i + 1 : Nat) : Int)), ?_, ⟨by simp only; omega, by simp only; omega, by simp only; omega, by simp only; omega⟩, by simp only; omega, ?_⟩
    · simp (disch := omega) only [cond_p, oreq_p, Int.toNat_natCast, List.getElem?_eq_getElem, Option.bind_some, wI64]; rfl
    · simp only [Int.toNat_natCast]
      rw [List.drop_eq_getElem_cons hi, List.sum_cons, Int.add_assoc]
  · refine .inl ?_
    rw [cond_n (by omega), R03_Add1_eq g1 (by omega), List.drop_eq_nil_of_le (by omega)]
    simp
theorem R03_Sum_eq {s : List UInt8} (h : s.length < 2 ^ 39) : R03_Sum s = some ((norm (wsum s) : Nat) : Int) := by
  unfold R03_Sum R03_SumF
  rw [R03_Words_eq h, Option.bind_some, R03_Add_eq (by rw [wordsL_len]; omega) (wordsL_rng s), wordsL_sum]; rfl
def setS (s : List UInt8) (p k n : Int) : List UInt8 := if 1 ≤ k ∧ k ≤ 8 ∧ 0 ≤ p ∧ p + k ≤ s.length then s.take p.toNat ++ be n.toNat k.toNat ++ s.drop (p + k).toNat else s
theorem Set_eq {s : List UInt8} {p k n : Int} (hs : s.length < 2 ^ 40) (hn : 0 ≤ n) : check_Set s p k n = some (setS s p k n) := by
  unfold check_Set check_SetF setS
  rw [octet_Put_eq hn, Option.bind_some]
  unfold putS
  by_cases hk : 1 ≤ k ∧ k ≤ 8
  · rw [if_pos hk]
    have e : (be n.toNat k.toNat == []) = false := by
      rw [beq_eq_false_iff_ne]; intro h; have := congrArg List.length h; simp at this; omega
    rw [e, cond_false]
    by_cases h1 : p < 0
    · rw [cond_p h1, if_neg (by omega)]
    rw [cond_n h1, wI64 (n := (s.length : Int) - k) (by omega) (by omega)]
    by_cases h2 : (s.length : Int) - k < p
    · simp only []
      rw [cond_p h2, if_neg (by omega)]
    simp only []
    have e1 : (p + k).toNat = p.toNat + k.toNat := by omega
    have e2 : ((s.drop (p + k).toNat).take (s.length - (p + k).toNat)) = s.drop (p + k).toNat := List.take_of_length_le (by simp)
    rw [cond_n h2, oreq_p (by omega), wI64 (n := p + k) (by omega) (by omega), e2, oreq_p (by simp; omega), oreq_p (by omega), oreq_p (by simp; omega), if_pos (by omega)]
  · rw [if_neg hk, if_neg (by omega)]; rfl
theorem R03_Set_eq {s : List UInt8} {p k n : Int} (hs : s.length < 2 ^ 40) (hn : 0 ≤ n) (hn2 : n < 2 ^ 64) : R03_Set s p k n = some (setS s p k n) := by
  unfold R03_Set R03_SetF setS
  rw [R02_Get_eq (by omega), Option.bind_some]
  unfold getS
  by_cases hc : 1 ≤ k ∧ k ≤ 8 ∧ 0 ≤ p ∧ p + k ≤ s.length
  · rw [if_pos hc, if_pos hc]
    have e2 : ((s.drop (p + k).toNat).take (s.length - (p + k).toNat)) = s.drop (p + k).toNat := List.take_of_length_le (by simp)
    simp only [Bool.not_true, cond_false]
    rw [R02_Put_eq hn hn2, Option.bind_some, oreq_p (by omega), wI64 (n := p + k) (by omega) (by omega), e2]
    unfold putS
    rw [if_pos (by omega), oreq_p (by simp; omega), oreq_p (by omega), oreq_p (by simp; omega)]
  · rw [if_neg hc, if_neg hc]; rfl
theorem Of_eq {s : List UInt8} (h : s.length < 2 ^ 39) : check_Of s = some (65535 - ((norm (wsum s) : Nat) : Int)) := by
  unfold check_Of check_OfF
  have := norm_le (wsum s)
  rw [sum_eq s (by omega), Option.bind_some, wI64 (by omega) (by omega)]
theorem R03_Of_eq {s : List UInt8} (h : s.length < 2 ^ 39) : R03_Of s = some (65535 - ((norm (wsum s) : Nat) : Int)) := by
  unfold R03_Of R03_OfF
  have := norm_le (wsum s)
  rw [R03_Sum_eq h, Option.bind_some, wI64 (by omega) (by omega)]
theorem Right_eq {s : List UInt8} (h : s.length < 2 ^ 39) : check_Right s = some (((norm (wsum s) : Nat) : Int) == 65535) := by
  unfold check_Right check_RightF
  rw [sum_eq s (by omega), Option.bind_some]
def A4 (a : api_Addr) : Prop := 0 ≤ a.Hi ∧ a.Hi < 2 ^ 64 ∧ 0 ≤ a.Lo ∧ a.Lo < 2 ^ 64
def aok (a : api_Addr) : Bool := a.V6 || (a.Hi == 0 && decide (a.Lo < 4294967296))
theorem aRight_eq (a : api_Addr) : addr_Right a = some (aok a) := by
  unfold addr_Right addr_RightF aok
  cases a.V6
  · cases (a.Hi == 0) <;> rfl
  · rfl
theorem a4Right_eq (a : api_Addr) : R04_Right a = some (aok a) := by
  unfold R04_Right R04_RightF aok
  cases a.V6
  · cases (a.Hi == 0) <;> rfl
  · rfl
def abytes (a : api_Addr) : List UInt8 := cond a.V6 (be a.Hi.toNat 8 ++ be a.Lo.toNat 8) (be a.Lo.toNat 4)
theorem abytes_len (a : api_Addr) : (abytes a).length = cond a.V6 16 4 := by unfold abytes; cases a.V6 <;> simp
theorem putS_be {n : Int} {k : Nat} (h : 1 ≤ k ∧ k ≤ 8) : putS n (k : Int) = be n.toNat k := by unfold putS; rw [if_pos (by omega)]; rfl
theorem aPut_eq {a : api_Addr} (h : A4 a) (hr : aok a = true) : addr_Put a = some (abytes a) := by
  obtain ⟨h1, h2, h3, h4⟩ := h
  unfold addr_Put addr_PutF abytes
  rw [aRight_eq, Option.bind_some, hr]
  simp only [Bool.not_true, cond_false]
  cases a.V6
  · simp only [cond_false]
    rw [octet_Put_eq h3, Option.bind_some, show (4 : Int) = ((4 : Nat) : Int) from rfl, putS_be (by omega)]
  · simp only [cond_true]
    rw [octet_Put_eq h1, Option.bind_some, octet_Put_eq h3, Option.bind_some, show (8 : Int) = ((8 : Nat) : Int) from rfl, putS_be (by omega), putS_be (by omega), oreq_p (by simp)]
theorem a4Put_eq {a : api_Addr} (h : A4 a) (hr : aok a = true) : R04_Put a = some (abytes a) := by
  obtain ⟨h1, h2, h3, h4⟩ := h
  unfold R04_Put R04_PutF abytes
  rw [a4Right_eq, Option.bind_some, hr]
  simp only [Bool.not_true, cond_false]
  cases a.V6
  · simp only [cond_false]
    rw [R02_Put_eq h3 h4, Option.bind_some, show (4 : Int) = ((4 : Nat) : Int) from rfl, putS_be (by omega)]
  · simp only [cond_true]
    rw [R02_Put_eq h1 h2, Option.bind_some, R02_Put_eq h3 h4, Option.bind_some, show (8 : Int) = ((8 : Nat) : Int) from rfl, putS_be (by omega), putS_be (by omega), oreq_p (by simp)]
theorem num5_eq {n k : Int} (h0 : 0 ≤ n) (h1 : n < 2 ^ 63) : R05_num n k = some (putS n k) := by
  unfold R05_num R05_numF
  rw [wU64 h0 (by omega), R02_Put_eq h0 (by omega)]; rfl
theorem putS_len (n k : Int) : (putS n k).length ≤ 8 := by unfold putS; split <;> simp <;> omega
theorem iB_bI (s : List UInt8) : iB (bI s) = s := by simp [iB, bI, List.map_map, Function.comp_def]
theorem iB_app (a b : List Int) : iB (a ++ b) = iB a ++ iB b := by simp [iB]
theorem bI_app (a b : List UInt8) : bI (a ++ b) = bI a ++ bI b := by simp [bI]
theorem iter_inl {σ ρ : Type} {f : σ → Option (Sum σ ρ)} {n : Nat} {s s' : σ} (h : f s = some (.inl s')) : iter f (n + 1) s = iter f n s' := by rw [iter, h]
theorem iter_inr {σ ρ : Type} {f : σ → Option (Sum σ ρ)} {n : Nat} {s : σ} {r : ρ} (h : f s = some (.inr r)) : iter f (n + 1) s = some r := by rw [iter, h]
theorem FUEL_succ : ∃ n, FUEL = n + 8 := ⟨18446744073709551608, rfl⟩
theorem row_eq {a b c d e f : Int} (ha : 0 ≤ a) (hc : 0 ≤ c) (he : 0 ≤ e) (ha1 : a < 2 ^ 63) (hc1 : c < 2 ^ 63) (he1 : e < 2 ^ 63) : ipfour_row [a, b, c, d, e, f] = some (putS a b ++ putS c d ++ putS e f) := by
  have l1 := putS_len a b
  have l2 := putS_len c d
  have l3 := putS_len e f
  unfold ipfour_row ipfour_rowF
  rw [cond_p (by simp), oreq_p (by simp)]
  show ((some a).bind _) = _
  rw [Option.bind_some, oreq_p (by simp)]
  show ((some b).bind _) = _
  rw [Option.bind_some, wU64 ha (by omega), octet_Put_eq ha, Option.bind_some, oreq_p (by omega)]
  obtain ⟨n, hn⟩ := FUEL_succ
  rw [hn]
  have s1 : ipfour_row_s1 octet_Put [a, b, c, d, e, f] 2 (bI (putS a b)) = some (.inl (4, bI (putS a b ++ putS c d))) := by
    unfold ipfour_row_s1
    simp only []
    rw [cond_p (by rw [show wI .i64 (2 + 1) = 3 from rfl]; simp), oreq_p (by simp)]
    show ((some c).bind _) = _
    rw [Option.bind_some, oreq_p (by rw [show wI .i64 (2 + 1) = 3 from rfl]; simp)]
    show ((some d).bind _) = _
    rw [Option.bind_some, wU64 hc (by omega), octet_Put_eq hc, Option.bind_some, oreq_p (by simp; omega), bI_app]; rfl
  have s2 : ipfour_row_s1 octet_Put [a, b, c, d, e, f] 4 (bI (putS a b ++ putS c d)) = some (.inl (6, bI (putS a b ++ putS c d ++ putS e f))) := by
    unfold ipfour_row_s1
    simp only []
    rw [cond_p (by rw [show wI .i64 (4 + 1) = 5 from rfl]; simp), oreq_p (by simp)]
    show ((some e).bind _) = _
    rw [Option.bind_some, oreq_p (by rw [show wI .i64 (4 + 1) = 5 from rfl]; simp)]
    show ((some f).bind _) = _
    rw [Option.bind_some, wU64 he (by omega), octet_Put_eq he, Option.bind_some, oreq_p (by simp; omega), bI_app (putS a b ++ putS c d)]; rfl
  have s3 : ipfour_row_s1 octet_Put [a, b, c, d, e, f] 6 (bI (putS a b ++ putS c d ++ putS e f)) = some (.inr (putS a b ++ putS c d ++ putS e f)) := by
    unfold ipfour_row_s1
    simp only []
    rw [cond_n (by rw [show wI .i64 (6 + 1) = 7 from rfl]; simp), oreq_p (by simp; omega), iB_bI]
  rw [iter_inl (f := fun (st : Int × List Int) => ipfour_row_s1 octet_Put [a, b, c, d, e, f] st.1 st.2) (n := n + 7) s1, iter_inl (n := n + 6) s2, iter_inr (n := n + 5) s3]
def pseu (src dst : api_Addr) (p n : Int) : List UInt8 :=
  if aok src = true ∧ aok dst = true ∧ src.V6 = dst.V6 then abytes src ++ abytes dst ++ cond src.V6 (putS n 4 ++ putS 0 3 ++ putS p 1) (putS 0 1 ++ putS p 1 ++ putS n 2) else []
theorem pseu_len (src dst : api_Addr) (p n : Int) : (pseu src dst p n).length ≤ 56 := by
  have l1 := putS_len n 4
  have l2 := putS_len 0 3
  have l3 := putS_len p 1
  have l4 := putS_len 0 1
  have l5 := putS_len n 2
  unfold pseu
  split
  · rw [List.length_append, List.length_append, abytes_len, abytes_len]
    cases src.V6 <;> cases dst.V6 <;> simp <;> omega
  · simp
theorem pseudo_eq {src dst : api_Addr} {p n : Int} (h1 : A4 src) (h2 : A4 dst) (hp : 0 ≤ p ∧ p < 2 ^ 63) (hn : 0 ≤ n ∧ n < 2 ^ 63) : ipfour_Pseudo src dst p n = some (pseu src dst p n) := by
  unfold ipfour_Pseudo ipfour_PseudoF pseu
  rw [aRight_eq, aRight_eq, Option.bind_some]
  cases e1 : aok src
  · simp
  simp only [Bool.not_true, cond_false, Option.bind_some]
  cases e2 : aok dst
  · simp
  simp only [Bool.not_true, cond_false]
  by_cases e3 : src.V6 = dst.V6
  · rw [if_pos (by simpa using e3), show (src.V6 == dst.V6) = true by simpa using e3]
    simp only [Bool.not_true, cond_false]
    have l1 := abytes_len src
    have l2 := abytes_len dst
    rw [aPut_eq h1 e1, Option.bind_some, aPut_eq h2 e2, Option.bind_some, oreq_p (by rw [l1, l2]; cases src.V6 <;> cases dst.V6 <;> decide)]
    rw [row_eq hn.1 (by omega) hp.1 hn.2 (by omega) hp.2, row_eq (by omega) hp.1 hn.1 (by omega) hp.2 hn.2]
    have m1 := putS_len n 4
    have m2 := putS_len 0 3
    have m3 := putS_len p 1
    have m4 := putS_len 0 1
    have m5 := putS_len n 2
    have b1 : (abytes src).length ≤ 16 := by rw [l1]; cases src.V6 <;> decide
    have b2 : (abytes dst).length ≤ 16 := by rw [l2]; cases dst.V6 <;> decide
    cases src.V6
    · simp only [cond_false, Option.bind_some]
      rw [oreq_p (by simp only [List.length_append]; omega)]
    · simp only [cond_true, Option.bind_some]
      rw [oreq_p (by simp only [List.length_append]; omega)]
  · rw [if_neg (fun h => e3 h.2.2), show (src.V6 == dst.V6) = false by simpa using e3]; rfl
theorem pseudo5_eq {src dst : api_Addr} {p n : Int} (h1 : A4 src) (h2 : A4 dst) (hp : 0 ≤ p ∧ p < 2 ^ 63) (hn : 0 ≤ n ∧ n < 2 ^ 63) : R05_Pseudo src dst p n = some (pseu src dst p n) := by
  unfold R05_Pseudo R05_PseudoF pseu
  rw [a4Right_eq, a4Right_eq, Option.bind_some]
  cases e1 : aok src
  · simp
  simp only [Bool.not_true, cond_false, Option.bind_some]
  cases e2 : aok dst
  · simp
  simp only [Bool.not_true, cond_false]
  by_cases e3 : src.V6 = dst.V6
  · rw [if_pos (by simpa using e3), show (src.V6 == dst.V6) = true by simpa using e3]
    simp only [Bool.not_true, cond_false]
    have l1 := abytes_len src
    have l2 := abytes_len dst
    have m1 := putS_len n 4
    have m2 := putS_len 0 3
    have m3 := putS_len p 1
    have m4 := putS_len 0 1
    have m5 := putS_len n 2
    have b1 : (abytes src).length ≤ 16 := by rw [l1]; cases src.V6 <;> decide
    have b2 : (abytes dst).length ≤ 16 := by rw [l2]; cases dst.V6 <;> decide
    rw [a4Put_eq h1 e1, a4Put_eq h2 e2, num5_eq hn.1 hn.2, num5_eq (n := 0) (k := 3) (by omega) (by omega), num5_eq hp.1 hp.2, num5_eq (n := 0) (k := 1) (by omega) (by omega), num5_eq hn.1 hn.2]
    cases src.V6
    · simp only [cond_false, Option.bind_some]
      rw [oreq_p (by omega), oreq_p (by simp only [List.length_append]; omega), oreq_p (by simp only [List.length_append]; omega), oreq_p (by simp only [List.length_append]; omega)]
      simp only [List.append_assoc]
    · simp only [cond_true, Option.bind_some]
      rw [oreq_p (by omega), oreq_p (by simp only [List.length_append]; omega), oreq_p (by simp only [List.length_append]; omega), oreq_p (by simp only [List.length_append]; omega)]
      simp only [List.append_assoc]
  · rw [if_neg (fun h => e3 h.2.2), show (src.V6 == dst.V6) = false by simpa using e3]; rfl
theorem wU64_rng (n : Int) : 0 ≤ wI .u64 n ∧ wI .u64 n < 2 ^ 64 := by rw [wU64m]; omega
def rowS : List Int → List UInt8
  | a :: b :: l => putS (wI .u64 a) b ++ rowS l
  | _ => []
theorem rowG_eq {l : List Int} (he : l.length % 2 = 0) (h2 : 2 ≤ l.length) (hl : l.length ≤ 1000) : ipfour_row l = some (rowS l) := by
  unfold ipfour_row ipfour_rowF
  obtain ⟨a, b, r, rfl⟩ : ∃ a b r, l = a :: b :: r := by
    match l, h2 with
    | a :: b :: r, _ => exact ⟨a, b, r, rfl⟩
  have p0 := putS_len (wI .u64 a) b
  rw [cond_p (by simp; omega), oreq_p (by simp; omega)]
  show ((some a).bind _) = _
  rw [Option.bind_some, oreq_p (by simp; omega)]
  show ((some b).bind _) = _
  rw [Option.bind_some, octet_Put_eq (wU64_rng a).1, Option.bind_some, oreq_p (by omega)]
  generalize hL : a :: b :: r = L at *
  have key := iter_eq (step := fun (st : Int × List Int) => ipfour_row_s1 octet_Put L st.1 st.2) (fun st => iB st.2 ++ rowS (L.drop st.1.toNat)) (fun st => 0 ≤ st.1 ∧ st.1 ≤ L.length ∧ st.1.toNat % 2 = 0 ∧ st.2.length ≤ 8 * st.1.toNat) (fun st => (L.length - st.1).toNat) ?_ FUEL (2, bI (putS (wI .u64 a) b)) ⟨by simp, by simp only; omega, by simp, by simp; omega⟩ (by rw [FUEL_eq]; simp only; omega)
  · rw [key]
    simp only [iB_bI]
    subst hL; rfl
  rintro ⟨p, c⟩ ⟨g1, g2, g3, g4⟩
  simp only at g1 g2 g3 g4 ⊢
  obtain ⟨i, rfl⟩ := Int.eq_ofNat_of_zero_le g1
  simp only [Int.toNat_natCast] at g3 g4 ⊢
  unfold ipfour_row_s1
  simp only []
  rw [wI64 (n := (i : Int) + 1) (by omega) (by omega)]
  by_cases hi : i < L.length
  · have hi1 : i + 1 < L.length := by omega
    have pl := putS_len (wI .u64 L[i]) L[i + 1]
    refine .inr ⟨(((i + 2 : Nat) : Int), c ++ bI (putS (wI .u64 L[i]) L[i + 1])), ?_, ⟨by simp only; omega, by simp only; omega, by simp only [Int.toNat_natCast]; omega, by simp; omega⟩, by simp only; omega, ?_⟩
    · rw [cond_p (by omega), oreq_p (by omega), Int.toNat_natCast, List.getElem?_eq_getElem hi, Option.bind_some, oreq_p (by omega), show ((i : Int) + 1).toNat = i + 1 by omega, List.getElem?_eq_getElem hi1, Option.bind_some, octet_Put_eq (wU64_rng _).1, Option.bind_some, oreq_p (by omega), wI64 (by omega) (by omega)]; rfl
    · simp only [Int.toNat_natCast]
      rw [iB_app, iB_bI, List.drop_eq_getElem_cons hi, List.drop_eq_getElem_cons hi1, rowS]; simp
  · refine .inl ?_
    rw [cond_n (by omega), oreq_p (by omega), List.drop_eq_nil_of_le (by omega)]; simp [rowS]
theorem num5W_eq (n k : Int) : R05_num n k = some (putS (wI .u64 n) k) := by
  unfold R05_num R05_numF
  rw [R02_Put_eq (wU64_rng n).1 (wU64_rng n).2]; rfl
def pseuW (src dst : api_Addr) (p n : Int) : List UInt8 := pseu src dst (wI .u64 p) (wI .u64 n)
theorem pseuW_eq {src dst : api_Addr} {p n : Int} (hp : 0 ≤ p ∧ p < 2 ^ 63) (hn : 0 ≤ n ∧ n < 2 ^ 63) : pseuW src dst p n = pseu src dst p n := by
  unfold pseuW; rw [wU64 hp.1 (by omega), wU64 hn.1 (by omega)]
theorem pseudoW_eq {src dst : api_Addr} {p n : Int} (h1 : A4 src) (h2 : A4 dst) : ipfour_Pseudo src dst p n = some (pseuW src dst p n) := by
  unfold ipfour_Pseudo ipfour_PseudoF pseuW pseu
  rw [aRight_eq, aRight_eq, Option.bind_some]
  cases e1 : aok src
  · simp
  simp only [Bool.not_true, cond_false, Option.bind_some]
  cases e2 : aok dst
  · simp
  simp only [Bool.not_true, cond_false]
  by_cases e3 : src.V6 = dst.V6
  · rw [if_pos (by simpa using e3), show (src.V6 == dst.V6) = true by simpa using e3]
    simp only [Bool.not_true, cond_false]
    have l1 := abytes_len src
    have l2 := abytes_len dst
    rw [aPut_eq h1 e1, Option.bind_some, aPut_eq h2 e2, Option.bind_some, oreq_p (by rw [l1, l2]; cases src.V6 <;> cases dst.V6 <;> decide)]
    rw [rowG_eq (by simp) (by simp) (by simp), rowG_eq (by simp) (by simp) (by simp)]
    have m1 := putS_len (wI .u64 n) 4
    have m2 := putS_len 0 3
    have m3 := putS_len (wI .u64 p) 1
    have m4 := putS_len 0 1
    have m5 := putS_len (wI .u64 n) 2
    have b1 : (abytes src).length ≤ 16 := by rw [l1]; cases src.V6 <;> decide
    have b2 : (abytes dst).length ≤ 16 := by rw [l2]; cases dst.V6 <;> decide
    have z : wI .u64 0 = 0 := rfl
    simp only [rowS, z, List.append_nil]
    cases src.V6
    · simp only [cond_false, Option.bind_some]
      rw [oreq_p (by simp only [List.length_append]; omega)]; simp only [List.append_assoc]
    · simp only [cond_true, Option.bind_some]
      rw [oreq_p (by simp only [List.length_append]; omega)]; simp only [List.append_assoc]
  · rw [if_neg (fun h => e3 h.2.2), show (src.V6 == dst.V6) = false by simpa using e3]; rfl
theorem pseudo5W_eq {src dst : api_Addr} {p n : Int} (h1 : A4 src) (h2 : A4 dst) : R05_Pseudo src dst p n = some (pseuW src dst p n) := by
  unfold R05_Pseudo R05_PseudoF pseuW pseu
  rw [a4Right_eq, a4Right_eq, Option.bind_some]
  cases e1 : aok src
  · simp
  simp only [Bool.not_true, cond_false, Option.bind_some]
  cases e2 : aok dst
  · simp
  simp only [Bool.not_true, cond_false]
  by_cases e3 : src.V6 = dst.V6
  · rw [if_pos (by simpa using e3), show (src.V6 == dst.V6) = true by simpa using e3]
    simp only [Bool.not_true, cond_false]
    have l1 := abytes_len src
    have l2 := abytes_len dst
    have m1 := putS_len (wI .u64 n) 4
    have m2 := putS_len 0 3
    have m3 := putS_len (wI .u64 p) 1
    have m4 := putS_len 0 1
    have m5 := putS_len (wI .u64 n) 2
    have b1 : (abytes src).length ≤ 16 := by rw [l1]; cases src.V6 <;> decide
    have b2 : (abytes dst).length ≤ 16 := by rw [l2]; cases dst.V6 <;> decide
    have z : wI .u64 0 = 0 := rfl
    rw [a4Put_eq h1 e1, a4Put_eq h2 e2]
    simp only [num5W_eq, z]
    cases src.V6
    · simp only [cond_false, Option.bind_some]
      rw [oreq_p (by omega), oreq_p (by simp only [List.length_append]; omega), oreq_p (by simp only [List.length_append]; omega), oreq_p (by simp only [List.length_append]; omega)]
      simp only [List.append_assoc]
    · simp only [cond_true, Option.bind_some]
      rw [oreq_p (by omega), oreq_p (by simp only [List.length_append]; omega), oreq_p (by simp only [List.length_append]; omega), oreq_p (by simp only [List.length_append]; omega)]
      simp only [List.append_assoc]
  · rw [if_neg (fun h => e3 h.2.2), show (src.V6 == dst.V6) = false by simpa using e3]; rfl
def rdr (r : octet_Reader) (k : Int) : octet_Reader := if r.bad = true ∨ k < 0 ∨ k > r.s.length then ⟨r.s, true, true⟩ else ⟨r.s.drop k.toNat, true, false⟩
def rdt (r : octet_Reader) (k : Int) : List UInt8 := if r.bad = true ∨ k < 0 ∨ k > r.s.length then [] else r.s.take k.toNat
theorem rBad_eq {r : octet_Reader} (h : r.made = true) : octet_Reader_Bad r = some (r.bad, r) := by
  unfold octet_Reader_Bad octet_Reader_BadF
  rw [h]; rfl
theorem rText_eq {r : octet_Reader} {k : Int} (h : r.made = true) : octet_Reader_Text r k = some (rdt r k, rdr r k) := by
  unfold octet_Reader_Text octet_Reader_TextF rdt rdr
  rw [rBad_eq h, Option.bind_some]
  simp only []
  obtain ⟨s, m, b⟩ := r
  simp only at h ⊢
  subst h
  cases b with
  | true => simp
  | false =>
    rw [cond_false]
    by_cases h1 : k < 0
    · rw [cond_p h1, if_pos (by omega), if_pos (by omega)]
    rw [cond_n h1]
    by_cases h2 : k > s.length
    · rw [cond_p h2, if_pos (by omega), if_pos (by omega)]
    · have e : (s.drop k.toNat).take (s.length - k.toNat) = s.drop k.toNat := List.take_of_length_le (by simp)
      rw [cond_n h2, oreq_p (by omega), oreq_p (by omega), if_neg (by simp; omega), if_neg (by simp; omega), e]
theorem rdr_made (r : octet_Reader) (k : Int) : (rdr r k).made = true := by unfold rdr; split <;> rfl
theorem rdr_bad {r : octet_Reader} {k : Int} : (rdr r k).bad = false ↔ r.bad = false ∧ 0 ≤ k ∧ k ≤ r.s.length := by
  unfold rdr
  split
  · rename_i h
    simp only [Bool.true_eq_false, false_iff]
    intro ⟨a, b, c⟩
    rcases h with h | h | h
    · rw [a] at h; cases h
    · omega
    · omega
  · rename_i h
    simp only [true_iff]
    cases hb : r.bad
    · exact ⟨rfl, by omega, by omega⟩
    · exact absurd (.inl hb) h
theorem rdr_len {r : octet_Reader} {k : Int} (h : (rdr r k).bad = false) : ((rdr r k).s.length : Int) = r.s.length - k := by
  obtain ⟨a, b, c⟩ := rdr_bad.1 h
  unfold rdr
  rw [if_neg (by rw [a]; simp; omega)]
  simp; omega
theorem rdr_step {r r' : octet_Reader} {k : Int} (h : rdr r k = r') (hb : r'.bad = false) : r.bad = false ∧ (r'.s.length : Int) + k = r.s.length := by
  subst h
  have := rdr_len hb
  exact ⟨(rdr_bad.1 hb).1, by omega⟩
theorem rdr_ok {s : List UInt8} {k : Int} (h0 : 0 ≤ k) (h1 : k ≤ s.length) : rdr ⟨s, true, false⟩ k = ⟨s.drop k.toNat, true, false⟩ := by
  unfold rdr; rw [if_neg (by simp; omega)]
theorem rdt_ok {s : List UInt8} {k : Int} (h0 : 0 ≤ k) (h1 : k ≤ s.length) : rdt ⟨s, true, false⟩ k = s.take k.toNat := by
  unfold rdt; rw [if_neg (by simp; omega)]
theorem rdt_len (r : octet_Reader) (k : Int) : (rdt r k).length ≤ r.s.length := by
  unfold rdt; split
  · simp
  · rw [List.length_take]; omega
def rdn (r : octet_Reader) (k : Int) : Int := (valL (rdt r (if k < 1 ∨ k > 7 then -1 else k)) : Nat)
theorem rNum_eq {r : octet_Reader} {k : Int} (h : r.made = true) (hl : r.s.length < 2 ^ 61) : octet_Reader_Num r k = some (rdn r k, rdr r (if k < 1 ∨ k > 7 then -1 else k)) := by
  unfold octet_Reader_Num octet_Reader_NumF rdn
  have bad : octet_Reader_Text r (-1) = some ([], rdr r (-1)) := by
    rw [rText_eq h]; unfold rdt; rw [if_pos (by omega)]
  have e0 : rdt r (-1) = [] := by unfold rdt; rw [if_pos (by omega)]
  by_cases h1 : k < 1
  · rw [cond_p h1, bad, Option.bind_some, octet_Get_eq (by simp), if_pos (by omega), Option.bind_some, e0]; rfl
  rw [cond_n h1]
  by_cases h2 : k > 7
  · rw [cond_p h2, bad, Option.bind_some, octet_Get_eq (by simp), if_pos (by omega), Option.bind_some, e0]; rfl
  have hlen := rdt_len r k
  rw [cond_n h2, rText_eq h, Option.bind_some, octet_Get_eq (by simp only []; omega), Option.bind_some, if_neg (by omega)]
  simp only []
  unfold getS
  by_cases hc : r.bad = true ∨ k < 0 ∨ k > r.s.length
  · have e : rdt r k = [] := by unfold rdt; rw [if_pos hc]
    rw [e, if_neg (by simp; omega)]; rfl
  · have hl2 : (rdt r k).length = k.toNat := by unfold rdt; rw [if_neg hc]; simp; omega
    rw [if_pos (by omega)]
    have e2 : ((rdt r k).drop (0 : Int).toNat).take k.toNat = rdt r k := by
      rw [show (0 : Int).toNat = 0 from rfl, List.drop_zero, List.take_of_length_le (by omega)]
    have hv : valL (rdt r k) < 2 ^ 56 := by
      have := val_lt (rdt r k)
      rw [hl2] at this
      exact pow_step this (by omega)
    simp only [e2]
    rw [wI64 (by omega) (by omega)]
theorem getS_at {s : List UInt8} {p k : Int} (h0 : 0 ≤ p) (h1 : 1 ≤ k) (h8 : k ≤ 8) (h : p + k ≤ s.length) : getS s p k = (((valL ((s.drop p.toNat).take k.toNat) : Nat) : Int), true) := by
  unfold getS; rw [if_pos (by omega)]
theorem rNew_eq (s : List UInt8) : octet_New s = some ⟨s, true, false⟩ := rfl
def sset (s : List UInt8) (p k n : Nat) : List UInt8 := s.take p ++ be n k ++ s.drop (p + k)
theorem sset_len {s : List UInt8} {p k n : Nat} (h : p + k ≤ s.length) : (sset s p k n).length = s.length := by simp [sset]; omega
theorem Set_sset {s : List UInt8} {p k : Nat} {n : Int} (hs : s.length < 2 ^ 40) (hn : 0 ≤ n) (h1 : 1 ≤ k) (h8 : k ≤ 8) (h : p + k ≤ s.length) : check_Set s (p : Int) (k : Int) n = some (sset s p k n.toNat) := by
  rw [Set_eq hs hn]; unfold setS
  rw [if_pos (by omega)]
  have e : ((p : Int) + k).toNat = p + k := by omega
  rw [e]; rfl
theorem sset_get {s : List UInt8} {p k n y : Nat} (h : p + k ≤ s.length) : (sset s p k n)[y]? = if y < p then s[y]? else if y < p + k then (be n k)[y - p]? else s[y]? := by
  unfold sset
  rw [List.append_assoc, List.getElem?_append]
  have e1 : (s.take p).length = p := by simp; omega
  rw [e1]
  by_cases h1 : y < p
  · rw [if_pos h1, if_pos h1, List.getElem?_take_of_lt h1]
  · rw [if_neg h1, if_neg h1, List.getElem?_append, be_len]
    by_cases h2 : y < p + k
    · rw [if_pos (by omega), if_pos h2]
    · rw [if_neg (by omega), if_neg h2, List.getElem?_drop]
      congr 1; omega
theorem slice_get {l : List UInt8} {q m x : Nat} : ((l.drop q).take m)[x]? = if x < m then l[q + x]? else none := by
  rw [List.getElem?_take]; split
  · rw [List.getElem?_drop]
  · rfl
theorem slice_same {s : List UInt8} {p k n : Nat} (h : p + k ≤ s.length) : ((sset s p k n).drop p).take k = be n k := by
  apply List.ext_getElem?
  intro x
  rw [slice_get, sset_get h]
  split
  · rw [if_neg (by omega), if_pos (by omega), Nat.add_sub_cancel_left]
  · rw [List.getElem?_eq_none (by simp; omega)]
theorem slice_other {s : List UInt8} {p k n q m : Nat} (h : p + k ≤ s.length) (ho : q + m ≤ p ∨ p + k ≤ q) : ((sset s p k n).drop q).take m = (s.drop q).take m := by
  apply List.ext_getElem?
  intro x
  rw [slice_get, slice_get]
  split
  · rw [sset_get h]
    by_cases h1 : q + x < p
    · rw [if_pos h1]
    · rw [if_neg h1, if_neg (by omega)]
  · rfl
theorem wsum_cut {s : List UInt8} {p k : Nat} (h : p + k ≤ s.length) (hp : p % 2 = 0) (hk : k % 2 = 0) : wsum s = wsum (s.take p) + (wsum ((s.drop p).take k) + wsum (s.drop (p + k))) := by
  rw [← List.drop_drop, ← wsum_append _ _ (by rw [List.length_take, List.length_drop]; omega), List.take_append_drop, ← wsum_append _ _ (by rw [List.length_take]; omega), List.take_append_drop]
theorem wsum_sset {s : List UInt8} {p k n : Nat} (h : p + k ≤ s.length) (hp : p % 2 = 0) (hk : k % 2 = 0) : wsum (sset s p k n) + wsum ((s.drop p).take k) = wsum s + wsum (be n k) := by
  rw [wsum_cut h hp hk]
  unfold sset
  rw [List.append_assoc, wsum_append _ _ (by rw [List.length_take]; omega), wsum_append _ _ (by rw [be_len]; omega)]
  omega
theorem wsum_be2 {n : Nat} (h : n < 65536) : wsum (be n 2) = n := by
  have e : be n 2 = [UInt8.ofNat (n / 256), UInt8.ofNat n] := by simp [be]
  rw [e, wsum, wsum]
  simp only [UInt8.toNat_ofNat']
  omega
theorem norm_zero_mod {n : Nat} (h : n % 65535 = 0) (h0 : n ≠ 0) : norm n = 65535 := norm_eq (by omega) (by omega) (by omega)
def inR (n m : Int) : Bool := decide (0 ≤ n ∧ n ≤ m)
theorem inR_iff {n m : Int} : inR n m = true ↔ 0 ≤ n ∧ n ≤ m := by unfold inR; simp
theorem opt_mod (n : Nat) : (((n : Int).tmod 4) == 0) = decide (n % 4 = 0) := by
  rw [Int.tmod_eq_emod_of_nonneg (by omega), Bool.eq_iff_iff, beq_iff_eq, decide_eq_true_eq]; omega
theorem opt_le (n : Nat) : decide ((n : Int) ≤ 40) = decide (n ≤ 40) := by rw [Bool.eq_iff_iff, decide_eq_true_eq, decide_eq_true_eq]; omega
theorem tdiv4 (n : Nat) : (20 + (n : Int)).tdiv 4 = (((20 + n) / 4 : Nat) : Int) := by rw [Int.tdiv_eq_ediv_of_nonneg (by omega)]; omega
def vK (s : List UInt8) (p k : Nat) : Int := (valL ((s.drop p).take k) : Nat)
theorem vK_rng (s : List UInt8) (p k n : Nat) (h : 256 ^ k ≤ n) : 0 ≤ vK s p k ∧ vK s p k < n := by
  have := val_take_lt (l := s.drop p) (k := k) n h
  unfold vK; omega
theorem num_at {s : List UInt8} {p k : Nat} (h1 : 1 ≤ k) (h7 : k ≤ 7) (h : p + k ≤ s.length) (hl : s.length < 2 ^ 61) : octet_Reader_Num ⟨s.drop p, true, false⟩ (k : Int) = some (vK s p k, ⟨s.drop (p + k), true, false⟩) := by
  have hd : (s.drop p).length = s.length - p := by simp
  rw [rNum_eq rfl (by simp only; omega), if_neg (by omega), rdr_ok (by omega) (by omega)]
  unfold rdn
  rw [if_neg (by omega), rdt_ok (by omega) (by omega), Int.toNat_natCast, List.drop_drop]; rfl
theorem text_at {s : List UInt8} {p k : Nat} (h : p + k ≤ s.length) : octet_Reader_Text ⟨s.drop p, true, false⟩ (k : Int) = some ((s.drop p).take k, ⟨s.drop (p + k), true, false⟩) := by
  have hd : (s.drop p).length = s.length - p := by simp
  rw [rText_eq rfl, rdr_ok (by omega) (by omega), rdt_ok (by omega) (by omega), Int.toNat_natCast, List.drop_drop]
theorem must_at {s : List UInt8} {p k : Nat} (hs : s.length < 2 ^ 61) (h1 : 1 ≤ k) (h7 : k ≤ 7) (h : p + k ≤ s.length) : R02_Must s (p : Int) (k : Int) = some (vK s p k) := by
  rw [R02_Must_eq hs, getS_at (by omega) (by omega) (by omega) (by omega)]
  have := vK_rng s p k (256 ^ k) (Nat.le_refl _)
  have h8 : 256 ^ k ≤ 256 ^ 7 := Nat.pow_le_pow_right (by decide) h7
  have h9 : (256 : Nat) ^ 7 = 72057594037927936 := by decide
  show some (wI .i64 (vK s p k)) = _
  rw [wI64 (by omega) (by omega)]
theorem vK_one {s : List UInt8} {p : Nat} (h : p < s.length) : vK s p 1 = (s[p].toNat : Int) := by
  unfold vK
  rw [List.drop_eq_getElem_cons h]
  show ((valL [s[p]] : Nat) : Int) = _
  rw [val_cons]; simp
theorem vK_two {s : List UInt8} {p : Nat} (h : p + 1 < s.length) : vK s p 2 = (s[p].toNat * 256 + s[p + 1].toNat : Int) := by
  unfold vK
  rw [List.drop_eq_getElem_cons (by omega : p < s.length), List.drop_eq_getElem_cons h]
  show ((valL [s[p], s[p + 1]] : Nat) : Int) = _
  rw [val_cons, val_cons]; simp
theorem l1 {l : List UInt8} (h : l.length = 1) : ∃ a, l = [a] := by
  match l, h with
  | [a], _ => exact ⟨a, rfl⟩
theorem l2 {l : List UInt8} (h : l.length = 2) : ∃ a b, l = [a, b] := by
  match l, h with
  | [a, b], _ => exact ⟨a, b, rfl⟩
theorem l4 {l : List UInt8} (h : l.length = 4) : ∃ a b c d, l = [a, b, c, d] := by
  match l, h with
  | [a, b, c, d], _ => exact ⟨a, b, c, d, rfl⟩
theorem vK_of {s w : List UInt8} {p k n : Nat} (h : (s.drop p).take k = w) (e : w = be n k) (hn : n < 256 ^ k) : vK s p k = (n : Int) := by
  unfold vK; rw [h, e, val_be_lt hn]
theorem be_vK {s : List UInt8} {p k : Nat} (h : p + k ≤ s.length) : be (vK s p k).toNat k = (s.drop p).take k := by
  unfold vK; rw [Int.toNat_natCast]; exact be_val' (by simp; omega)
theorem putS_two (n : Int) : putS n 2 = be n.toNat 2 := putS_be (k := 2) (by omega)
theorem pseu_even (src dst : api_Addr) (p n : Int) : (pseu src dst p n).length % 2 = 0 := by
  unfold pseu
  split
  · rename_i h
    rw [List.length_append, List.length_append, abytes_len, abytes_len, ← h.2.2]
    cases src.V6
    · simp only [cond_false, List.length_append]
      rw [show (putS 0 1).length = 1 from rfl, show putS p 1 = be p.toNat 1 from putS_be (k := 1) (by omega), show putS n 2 = be n.toNat 2 from putS_be (k := 2) (by omega), be_len, be_len]
    · simp only [cond_true, List.length_append]
      rw [show (putS 0 3).length = 3 from rfl, show putS p 1 = be p.toNat 1 from putS_be (k := 1) (by omega), show putS n 4 = be n.toNat 4 from putS_be (k := 4) (by omega), be_len, be_len]
  · rfl
def AddrOK (a : api_Addr) : Prop := (0 ≤ a.Hi ∧ a.Hi < 2 ^ 64) ∧ 0 ≤ a.Lo ∧ a.Lo < 2 ^ 64
theorem addrOK_of {v : Bool} {hi lo : Int} (h1 : 0 ≤ hi ∧ hi < 18446744073709551616) (h2 : 0 ≤ lo ∧ lo < 18446744073709551616) : AddrOK ⟨v, hi, lo⟩ := ⟨⟨h1.1, by have := h1.2; simp only []; omega⟩, h2.1, by have := h2.2; simp only []; omega⟩
def addrB (a : api_Addr) : List UInt8 := be a.Hi.toNat 8 ++ be a.Lo.toNat 8
theorem addr_Put6 {a : api_Addr} (h : AddrOK a) (h6 : a.V6 = true) : addr_Put a = some (addrB a) := by
  unfold addr_Put addr_PutF addr_Right addr_RightF
  rw [h6]
  simp only [cond_true, Option.bind_some, Bool.not_true, cond_false]
  rw [octet_Put_eq h.1.1, octet_Put_eq h.2.1]
  simp only [Option.bind_some, putS]
  rw [if_pos (by omega), if_pos (by omega), oreq_p (by simp)]; rfl
theorem R04_Put6 {a : api_Addr} (h : AddrOK a) (h6 : a.V6 = true) : R04_Put a = some (addrB a) := by
  unfold R04_Put R04_PutF R04_Right R04_RightF
  rw [h6]
  simp only [cond_true, Option.bind_some, Bool.not_true, cond_false]
  rw [R02_Put_eq h.1.1 h.1.2, R02_Put_eq h.2.1 h.2.2]
  simp only [Option.bind_some, putS]
  rw [if_pos (by omega), if_pos (by omega), oreq_p (by simp)]; rfl
def addrG (s : List UInt8) : api_Addr := ⟨true, (valL (s.take 8) : Nat), (valL (s.drop 8) : Nat)⟩
theorem getS_in {s : List UInt8} {p k : Nat} (h : p + k ≤ s.length) (h1 : 1 ≤ k) (h8 : k ≤ 8) : getS s (p : Int) (k : Int) = (((valL ((s.drop p).take k) : Nat) : Int), true) := by
  unfold getS; rw [if_pos (by omega)]; rfl
def H6 (h : ipsix_Head) : Prop := (0 ≤ h.Class ∧ h.Class ≤ 255) ∧ (0 ≤ h.Label ∧ h.Label ≤ 1048575) ∧ (0 ≤ h.Next ∧ h.Next ≤ 255) ∧ (0 ≤ h.Hop ∧ h.Hop ≤ 255) ∧ h.Src.V6 = true ∧ h.Dst.V6 = true
instance (h : ipsix_Head) : Decidable (H6 h) := inferInstanceAs (Decidable (_ ∧ _))
theorem may6_eq (h : ipsix_Head) : ipsix_Head_may h = some (decide (H6 h)) := by
  unfold ipsix_Head_may ipsix_Head_mayF
  simp only [cond_dec]
  by_cases hh : H6 h
  · rw [decide_eq_true hh]
    obtain ⟨a, b, c, d, e, f⟩ := hh
    rw [if_neg (by omega), if_neg (by omega), if_neg (by omega), if_neg (by omega), if_neg (by omega), if_neg (by omega), if_neg (by omega), if_neg (by omega), e, f]; rfl
  · rw [decide_eq_false hh]
    unfold H6 at hh
    repeat' split
    all_goals first | rfl | skip
    cases e : h.Src.V6
    · rfl
    · rw [cond_true]
      cases f : h.Dst.V6
      · rfl
      · exact absurd ⟨by omega, by omega, by omega, by omega, e, f⟩ hh
theorem in6_eq (n m : Int) : R06_in n m = some (decide (0 ≤ n ∧ n ≤ m)) := by
  unfold R06_in R06_inF
  by_cases h : n ≥ 0
  · rw [cond_p h]; congr 1; rw [Bool.eq_iff_iff, decide_eq_true_eq, decide_eq_true_eq]; omega
  · rw [cond_n h]; congr 1; symm; exact decide_eq_false (by omega)
theorem right6_eq (h : ipsix_Head) : R06_Right h = some (decide (H6 h)) := by
  unfold R06_Right R06_RightF
  simp only [in6_eq, Option.bind_some, cond_dec]
  by_cases hh : H6 h
  · rw [decide_eq_true hh]
    obtain ⟨a, b, c, d, e, f⟩ := hh
    rw [if_pos a, if_pos b, if_pos c, if_pos d, e, f]; rfl
  · rw [decide_eq_false hh]
    unfold H6 at hh
    repeat' split
    all_goals first | rfl | skip
    cases e : h.Src.V6
    · rfl
    · rw [cond_true]
      cases f : h.Dst.V6
      · rfl
      · exact absurd ⟨by assumption, by assumption, by assumption, by assumption, e, f⟩ hh
def headB (h : ipsix_Head) (n : Nat) : List UInt8 := be (6 * 2 ^ 28 + h.Class.toNat * 2 ^ 20 + h.Label.toNat) 4 ++ be n 2 ++ be h.Next.toNat 1 ++ be h.Hop.toNat 1 ++ addrB h.Src ++ addrB h.Dst
theorem headB_len (h : ipsix_Head) (n : Nat) : (headB h n).length = 40 := by simp [headB, addrB]
def put6 (h : ipsix_Head) (p : List UInt8) : List UInt8 × Int := if ¬ H6 h then ([], 1) else if p.length > 65535 then ([], 5) else (headB h p.length ++ p, 0)
theorem put6_eq {h : ipsix_Head} {p : List UInt8} (hs : AddrOK h.Src) (hd : AddrOK h.Dst) (hp : p.length < 2 ^ 60) : ipsix_Put h p = some (put6 h p) := by
  unfold ipsix_Put ipsix_PutF put6
  rw [may6_eq, Option.bind_some]
  by_cases hh : H6 h
  · rw [decide_eq_true hh, Bool.not_true, cond_false, if_neg (by simpa using hh)]
    obtain ⟨a, b, c, d, e, f⟩ := hh
    by_cases h5 : (p.length : Int) > 65535
    · rw [cond_p h5, if_pos (by omega)]
    rw [cond_n h5, if_neg (by omega)]
    simp only []
    rw [addr_Put6 hs e, addr_Put6 hd f]
    obtain ⟨C, hC⟩ := Int.eq_ofNat_of_zero_le a.1
    obtain ⟨L, hL⟩ := Int.eq_ofNat_of_zero_le b.1
    obtain ⟨X, hX⟩ := Int.eq_ofNat_of_zero_le c.1
    obtain ⟨O, hO⟩ := Int.eq_ofNat_of_zero_le d.1
    rw [hC] at a; rw [hL] at b; rw [hX] at c; rw [hO] at d
    have e1 : iorI .u64 (iorI .u64 1610612736 (wI .u64 ((wI .u64 h.Class) * 2 ^ 20))) (wI .u64 h.Label) = ((6 * 2 ^ 28 + C * 2 ^ 20 + L : Nat) : Int) := by
      rw [hC, hL, wU64 (n := (C : Int)) (by omega) (by omega), wU64 (n := (L : Int)) (by omega) (by omega), wU64 (n := (C : Int) * 2 ^ 20) (by omega) (by omega)]
      have g1 : iorI .u64 1610612736 ((C : Int) * 2 ^ 20) = ((6 * 2 ^ 8 + C : Nat) : Int) * 2 ^ 20 := by
        have := iorU64_low 28 (a := 6) (b := (C : Int) * 2 ^ 20) (by omega) (by omega) (by omega) (by omega) (by omega)
        rw [show (6 : Int) * 2 ^ 28 = 1610612736 from rfl] at this
        rw [this]; omega
      rw [g1, iorU64_low 20 (by omega) (by omega) (by omega) (by omega) (by omega)]; omega
    have e2 : iorI .u64 (iorI .u64 (wI .u64 ((wI .u64 (p.length : Int)) * 2 ^ 16)) (wI .u64 ((wI .u64 h.Next) * 2 ^ 8))) (wI .u64 h.Hop) = ((p.length * 2 ^ 16 + X * 2 ^ 8 + O : Nat) : Int) := by
      rw [hX, hO, wU64 (n := (X : Int)) (by omega) (by omega), wU64 (n := (O : Int)) (by omega) (by omega), wU64 (n := (p.length : Int)) (by omega) (by omega), wU64 (n := (X : Int) * 2 ^ 8) (by omega) (by omega), wU64 (n := (p.length : Int) * 2 ^ 16) (by omega) (by omega)]
      have g1 : iorI .u64 ((p.length : Int) * 2 ^ 16) ((X : Int) * 2 ^ 8) = ((p.length * 2 ^ 8 + X : Nat) : Int) * 2 ^ 8 := by
        rw [iorU64_low 16 (by omega) (by omega) (by omega) (by omega) (by omega)]; omega
      rw [g1, iorU64_low 8 (by omega) (by omega) (by omega) (by omega) (by omega)]; omega
    rw [e1, e2, octet_Put_eq (by omega), octet_Put_eq (by omega)]
    simp only [Option.bind_some, putS]
    have e3 : be (p.length * 2 ^ 16 + X * 2 ^ 8 + O) 4 = be p.length 2 ++ be X 1 ++ be O 1 := by
      refine be_of (by simp) ?_
      rw [val_append, val_append, val_be, val_be, val_be]
      simp only [be_len]
      omega
    rw [if_pos (by omega), if_pos (by omega)]
    have hl : (be (6 * 2 ^ 28 + C * 2 ^ 20 + L) 4).length = 4 := be_len _ _
    simp only [Int.toNat_natCast, show (4 : Int).toNat = 4 from rfl, e3]
    rw [oreq_p (by simp), oreq_p (by simp [addrB]), oreq_p (by simp [addrB]), oreq_p (by simp [addrB]; omega)]
    simp [headB, hC, hL, hX, hO]
  · rw [decide_eq_false hh, Bool.not_false, cond_true, if_pos hh]
theorem num6 {n k : Int} (h0 : 0 ≤ n) (h1 : n < 2 ^ 64) : R06_num n k = some (putS n k) := by
  unfold R06_num R06_numF
  rw [wU64 h0 (by omega), R02_Put_eq h0 h1]; rfl
theorem rput6_eq {h : ipsix_Head} {p : List UInt8} (hs : AddrOK h.Src) (hd : AddrOK h.Dst) (hp : p.length < 2 ^ 60) : R06_Put h p = some (put6 h p) := by
  unfold R06_Put R06_PutF put6
  rw [right6_eq, Option.bind_some]
  by_cases hh : H6 h
  · rw [decide_eq_true hh, Bool.not_true, cond_false, if_neg (by simpa using hh)]
    obtain ⟨a, b, c, d, e, f⟩ := hh
    by_cases h5 : (p.length : Int) > 65535
    · rw [cond_p h5, if_pos (by omega)]
    rw [cond_n h5, if_neg (by omega)]
    simp only []
    obtain ⟨C, hC⟩ := Int.eq_ofNat_of_zero_le a.1
    obtain ⟨L, hL⟩ := Int.eq_ofNat_of_zero_le b.1
    rw [hC] at a; rw [hL] at b
    have e1 : wI .i64 (wI .i64 (1610612736 + (wI .i64 (h.Class * 1048576))) + h.Label) = ((6 * 2 ^ 28 + C * 2 ^ 20 + L : Nat) : Int) := by
      rw [hC, hL, wI64 (n := (C : Int) * 1048576) (by omega) (by omega), wI64 (n := 1610612736 + (C : Int) * 1048576) (by omega) (by omega), wI64 (by omega) (by omega)]; omega
    rw [e1, R04_Put6 hs e, R04_Put6 hd f, num6 (by omega) (by omega), num6 (by omega) (by omega), num6 c.1 (by omega), num6 d.1 (by omega)]
    simp only [Option.bind_some, putS]
    rw [if_pos (by omega), if_pos (by omega), if_pos (by omega), if_pos (by omega)]
    simp only [Int.toNat_natCast, show (4 : Int).toNat = 4 from rfl, show (2 : Int).toNat = 2 from rfl, show (1 : Int).toNat = 1 from rfl]
    rw [oreq_p (by simp), oreq_p (by simp), oreq_p (by simp), oreq_p (by simp [addrB]), oreq_p (by simp [addrB]), oreq_p (by simp [addrB]; omega)]
    simp [headB, hC, hL]
  · rw [decide_eq_false hh, Bool.not_false, cond_true, if_pos hh]
theorem addr_Get16 {s : List UInt8} (h : s.length = 16) : addr_Get s = some (addrG s, true) := by
  unfold addr_Get addr_GetF
  have e1 : ((s.length : Int) == 4) = false := by rw [h]; rfl
  have e2 : ((s.length : Int) == 16) = true := by rw [h]; rfl
  have e3 : (s.drop 8).take 8 = s.drop 8 := List.take_of_length_le (by simp; omega)
  rw [e1, e2, cond_false, cond_true, octet_Get_eq (by omega), octet_Get_eq (by omega), getS_at (p := 0) (k := 8) (by omega) (by omega) (by omega) (by omega), getS_at (p := 8) (k := 8) (by omega) (by omega) (by omega) (by omega)]
  show some ((⟨true, ((valL ((s.drop 0).take 8) : Nat) : Int), ((valL ((s.drop 8).take 8) : Nat) : Int)⟩ : api_Addr), true) = _
  rw [e3]; rfl
theorem R04_Get16 {s : List UInt8} (h : s.length = 16) : R04_Get s = some (addrG s, true) := by
  unfold R04_Get R04_GetF
  have e1 : ((s.length : Int) == 4) = false := by rw [h]; rfl
  have e2 : ((s.length : Int) == 16) = true := by rw [h]; rfl
  have e3 : (s.drop 8).take 8 = s.drop 8 := List.take_of_length_le (by simp; omega)
  rw [e1, e2, cond_false, cond_true, R02_Get_eq (by omega), R02_Get_eq (by omega), getS_at (p := 0) (k := 8) (by omega) (by omega) (by omega) (by omega), getS_at (p := 8) (k := 8) (by omega) (by omega) (by omega) (by omega)]
  show some ((⟨true, ((valL ((s.drop 0).take 8) : Nat) : Int), ((valL ((s.drop 8).take 8) : Nat) : Int)⟩ : api_Addr), true) = _
  rw [e3]; rfl
def adr4 (s : List UInt8) (p : Nat) : api_Addr := ⟨false, 0, vK s p 4⟩
def adr6 (s : List UInt8) (p : Nat) : api_Addr := ⟨true, vK s p 8, vK s (p + 8) 8⟩
theorem aget4 {s : List UInt8} (h : s.length = 4) : addr_Get s = some (⟨false, 0, vK s 0 4⟩, true) := by
  unfold addr_Get addr_GetF
  rw [show ((s.length : Int) == 4) = true by rw [h]; rfl, cond_true, octet_Get_eq (by omega), getS_at (by omega) (by omega) (by omega) (by omega)]; rfl
theorem a4get4 {s : List UInt8} (h : s.length = 4) : R04_Get s = some (⟨false, 0, vK s 0 4⟩, true) := by
  unfold R04_Get R04_GetF
  rw [show ((s.length : Int) == 4) = true by rw [h]; rfl, cond_true, R02_Get_eq (by omega), getS_at (by omega) (by omega) (by omega) (by omega)]; rfl
theorem vK_sub2 (s : List UInt8) (p n q k : Nat) (h : q + k ≤ n) : vK ((s.drop p).take n) q k = vK s (p + q) k := by
  unfold vK
  rw [List.drop_take, List.drop_drop, List.take_take, Nat.min_eq_left (by omega)]
theorem aget16 {s : List UInt8} (p : Nat) (h : p + 16 ≤ s.length) : addr_Get ((s.drop p).take 16) = some (adr6 s p, true) := by
  rw [addr_Get16 (by simp; omega)]
  have e1 := vK_sub2 s p 16 0 8 (by omega)
  have e2 := vK_sub2 s p 16 8 8 (by omega)
  unfold vK at e1 e2
  rw [List.take_of_length_le (l := ((s.drop p).take 16).drop 8) (by simp; omega)] at e2
  rw [List.drop_zero] at e1
  unfold addrG adr6 vK
  rw [e1, e2]; rfl
theorem a4get16 {s : List UInt8} (p : Nat) (h : p + 16 ≤ s.length) : R04_Get ((s.drop p).take 16) = some (adr6 s p, true) := by
  rw [R04_Get16 (by simp; omega)]
  have e1 := vK_sub2 s p 16 0 8 (by omega)
  have e2 := vK_sub2 s p 16 8 8 (by omega)
  unfold vK at e1 e2
  rw [List.take_of_length_le (l := ((s.drop p).take 16).drop 8) (by simp; omega)] at e2
  rw [List.drop_zero] at e1
  unfold addrG adr6 vK
  rw [e1, e2]; rfl
def none53 : api_Tuple × Bool := (⟨0, ⟨false, 0, 0⟩, ⟨false, 0, 0⟩, 0, 0⟩, false)
def tup53 (p : Int) (a b : api_Addr) (s : List UInt8) (z : Nat) : api_Tuple × Bool := (⟨p, a, b, vK s z 2, vK s (z + 2) 2⟩, true)
def quoted53 (s : List UInt8) : api_Tuple × Bool :=
  if vK s 0 1 / 16 = 4 then (if (vK s 0 1 % 16 * 4).toNat < 20 ∨ s.length < (vK s 0 1 % 16 * 4).toNat + 4 ∨ norm (wsum (s.take (vK s 0 1 % 16 * 4).toNat)) ≠ 65535 ∨ (vK s 9 1 ≠ 6 ∧ vK s 9 1 ≠ 17) then none53 else tup53 (vK s 9 1) (adr4 s 12) (adr4 s 16) s (vK s 0 1 % 16 * 4).toNat)
  else if vK s 0 1 / 16 = 6 then (if s.length < 44 ∨ (vK s 6 1 ≠ 6 ∧ vK s 6 1 ≠ 17) then none53 else tup53 (vK s 6 1) (adr6 s 8) (adr6 s 24) s 40)
  else none53
def quoteS (s : List UInt8) : Int × List UInt8 × List UInt8 × Bool :=
  if vK s 0 1 / 16 = 4 then (if (vK s 0 1 % 16 * 4).toNat < 20 ∨ s.length < (vK s 0 1 % 16 * 4).toNat ∨ norm (wsum (s.take (vK s 0 1 % 16 * 4).toNat)) ≠ 65535 then (0, [], [], false) else (vK s 9 1, (s.drop 12).take 8, s.drop (vK s 0 1 % 16 * 4).toNat, true))
  else if vK s 0 1 / 16 = 6 then (if s.length < 40 then (0, [], [], false) else (vK s 6 1, (s.drop 8).take 32, s.drop 40, true))
  else (0, [], [], false)
theorem num0_eq (s : List UInt8) (hs : s.length < 2 ^ 61) : octet_Reader_Num ⟨s, true, false⟩ 1 = some (vK s 0 1, rdr ⟨s, true, false⟩ 1) := by
  rw [rNum_eq rfl hs, if_neg (by omega)]
  unfold rdn
  rw [if_neg (by omega)]
  unfold rdt vK
  by_cases h : s.length = 0
  · rw [List.eq_nil_of_length_eq_zero h]; rfl
  · rw [if_neg (by simp; omega)]; rfl
theorem quote_eq {s : List UInt8} (hs : s.length < 2 ^ 38) : icmp_quote s = some (quoteS s) := by
  unfold icmp_quote icmp_quoteF quoteS
  rw [rNew_eq, Option.bind_some, num0_eq s (by omega), Option.bind_some]
  have r0 := vK_rng s 0 1 256 (by decide)
  have ea : andI .i64 (vK s 0 1) 15 = vK s 0 1 % 16 := andI64_mask 4 rfl (by omega) (by omega) (by omega)
  simp only []
  rw [fdivP, show ((2 : Int) ^ 4) = 16 from rfl, ea, wI64 (n := vK s 0 1 % 16 * 4) (by omega) (by omega)]
  obtain ⟨t, ht⟩ := Int.eq_ofNat_of_zero_le (show 0 ≤ vK s 0 1 % 16 * 4 by omega)
  rw [ht]
  simp only [Int.toNat_natCast]
  by_cases g1 : vK s 0 1 / 16 = 4
  · rw [if_pos g1, show (vK s 0 1 / 16 == 4) = true by simpa using g1, cond_true]
    by_cases g2 : t < 20
    · rw [cond_p (by omega), if_pos (.inl g2)]
    rw [cond_n (by omega)]
    by_cases g3 : s.length < t
    · rw [cond_p (by omega), if_pos (.inr (.inl g3))]
    rw [cond_n (by omega), oreq_p (by omega), Right_eq (by simp; omega), Option.bind_some]
    by_cases g4 : norm (wsum (s.take t)) = 65535
    · have e9 := vK_one (s := s) (p := 9) (by omega)
      have r9 := vK_rng s 9 1 256 (by decide)
      rw [if_neg (by omega), g4, show ((((65535 : Nat) : Int) == 65535)) = true from rfl, Bool.not_true, cond_false, List.getElem?_eq_getElem (show 9 < s.length by omega), Option.bind_some, oreq_p (by omega), oreq_p (by omega), List.take_of_length_le (i := s.length - t) (by simp), ← e9, wI64 (by omega) (by omega)]
    · rw [if_pos (.inr (.inr g4)), show ((((norm (wsum (s.take t)) : Nat) : Int) == 65535)) = false by simp; omega]; rfl
  · rw [if_neg g1, show (vK s 0 1 / 16 == 4) = false by simpa using g1, cond_false]
    by_cases g2 : vK s 0 1 / 16 = 6
    · rw [if_pos g2, show (vK s 0 1 / 16 == 6) = true by simpa using g2, cond_true]
      by_cases g3 : s.length < 40
      · rw [cond_p (by omega), if_pos g3]
      · have e6 := vK_one (s := s) (p := 6) (by omega)
        have r6 := vK_rng s 6 1 256 (by decide)
        rw [cond_n (by omega), if_neg g3, List.getElem?_eq_getElem (show 6 < s.length by omega), Option.bind_some, oreq_p (by omega), oreq_p (by omega), List.take_of_length_le (i := s.length - 40) (by simp), ← e6, wI64 (by omega) (by omega)]
    · rw [if_neg g2, show (vK s 0 1 / 16 == 6) = false by simpa using g2, cond_false]
theorem val4 {s : List UInt8} {p : Nat} (h : p + 4 ≤ s.length) : ((valL ((s.drop p).take 4) : Nat) : Int) = vK s p 2 * 65536 + vK s (p + 2) 2 := by
  unfold vK
  have e : (s.drop p).take 4 = (s.drop p).take 2 ++ (s.drop (p + 2)).take 2 := by
    rw [show (4 : Nat) = 2 + 2 from rfl, List.take_add, List.drop_drop]
  rw [e, val_append, show ((s.drop (p + 2)).take 2).length = 2 by simp; omega]
  omega
theorem iquoted_eq {s : List UInt8} (hs : s.length < 2 ^ 38) : icmp_Quoted s = some (quoted53 s) := by
  unfold icmp_Quoted icmp_QuotedF
  have hz : (⟨0, ⟨false, 0, 0⟩, ⟨false, 0, 0⟩, 0, 0⟩, false) = none53 := rfl
  rw [hz, quote_eq hs, Option.bind_some]
  have hg0 : octet_Get [] 0 4 = some (0, false) := by rw [octet_Get_eq (by simp)]; rfl
  unfold quoteS quoted53
  have r0 := vK_rng s 0 1 256 (by decide)
  obtain ⟨t, ht⟩ := Int.eq_ofNat_of_zero_le (show 0 ≤ vK s 0 1 % 16 * 4 by omega)
  rw [ht]
  simp only [Int.toNat_natCast]
  have ports : ∀ z : Nat, z + 4 ≤ s.length → octet_Get (s.drop z) 0 4 = some (vK s z 2 * 65536 + vK s (z + 2) 2, true) := by
    intro z h
    rw [octet_Get_eq (by simp; omega), getS_at (by omega) (by omega) (by omega) (by simp; omega), ← val4 h]; rfl
  have noports : ∀ z : Nat, s.length < z + 4 → octet_Get (s.drop z) 0 4 = some (0, false) := by
    intro z h
    rw [octet_Get_eq (by simp; omega)]
    unfold getS
    rw [if_neg (by simp; omega)]
  have hp : ∀ z : Nat, wI .i64 ((vK s z 2 * 65536 + vK s (z + 2) 2).fdiv (2 ^ 16)) = vK s z 2 ∧ wI .i64 (andI .u64 (vK s z 2 * 65536 + vK s (z + 2) 2) 65535) = vK s (z + 2) 2 := by
    intro z
    have a := vK_rng s z 2 65536 (by decide)
    have b := vK_rng s (z + 2) 2 65536 (by decide)
    rw [fdivP, andU64_mask 16 (by decide) (by omega) (by omega) (by omega)]
    constructor
    · rw [wI64 (by omega) (by omega)]; omega
    · rw [wI64 (by omega) (by omega)]; omega
  by_cases g1 : vK s 0 1 / 16 = 4
  · rw [if_pos g1, if_pos g1]
    by_cases g2 : t < 20 ∨ s.length < t ∨ norm (wsum (s.take t)) ≠ 65535
    · rw [if_pos g2, if_pos (g2.elim .inl fun g => g.elim (fun g => .inr (.inl (by omega))) fun g => .inr (.inr (.inl g)))]
      simp only []
      rw [hg0]; rfl
    · rw [if_neg g2]
      simp only [Bool.not_true, cond_false]
      by_cases g3 : s.length < t + 4
      · rw [if_pos (.inr (.inl g3)), noports t g3]; rfl
      rw [ports t (by omega), Option.bind_some]
      simp only [Bool.not_true, cond_false]
      have hl : ((s.drop 12).take 8).length = 8 := by simp; omega
      have a1 := aget4 (s := ((s.drop 12).take 8).take 4) (by simp; omega)
      have a2 := aget4 (s := (((s.drop 12).take 8).drop 4).take 4) (by simp; omega)
      rw [show (((s.drop 12).take 8).take 4) = (s.drop 12).take 4 by rw [List.take_take]; rfl] at *
      rw [show ((((s.drop 12).take 8).drop 4).take 4) = (s.drop 16).take 4 by rw [List.drop_take, List.drop_drop, List.take_take]; rfl] at *
      have e1 := vK_sub2 s 12 4 0 4 (by omega)
      have e2 := vK_sub2 s 16 4 0 4 (by omega)
      rw [e1] at a1
      rw [e2] at a2
      rw [hl, show (((8 : Nat) : Int).tdiv 2) = 4 from rfl, show wI .i64 4 = 4 from rfl, oreq_p (by omega), show ((4 : Int).toNat) = 4 from rfl, show (((s.drop 12).take 8).take 4) = (s.drop 12).take 4 by rw [List.take_take]; rfl, show ((((s.drop 12).take 8).drop 4).take (8 - 4)) = (s.drop 16).take 4 by rw [List.drop_take, List.drop_drop, List.take_take]; rfl, a1, Option.bind_some, a2, Option.bind_some, (hp t).1, (hp t).2]
      by_cases g4 : vK s 9 1 = 6
      · rw [show (vK s 9 1 != 6) = false by simpa using g4, cond_false, if_neg (by omega)]; rfl
      · rw [show (vK s 9 1 != 6) = true by simpa using g4, cond_true]
        by_cases g5 : vK s 9 1 = 17
        · rw [show (vK s 9 1 != 17) = false by simpa using g5, cond_false, if_neg (by omega)]; rfl
        · rw [show (vK s 9 1 != 17) = true by simpa using g5, cond_true, if_pos (.inr (.inr (.inr ⟨g4, g5⟩)))]
  · rw [if_neg g1, if_neg g1]
    by_cases g2 : vK s 0 1 / 16 = 6
    · rw [if_pos g2, if_pos g2]
      by_cases g3 : s.length < 40
      · rw [if_pos g3, if_pos (.inl (by omega))]
        simp only []
        rw [hg0]; rfl
      rw [if_neg g3]
      simp only [Bool.not_true, cond_false]
      by_cases g4 : s.length < 44
      · rw [if_pos (.inl g4), noports 40 (by omega)]; rfl
      rw [ports 40 (by omega), Option.bind_some]
      simp only [Bool.not_true, cond_false]
      have hl : ((s.drop 8).take 32).length = 32 := by simp; omega
      rw [hl, show (((32 : Nat) : Int).tdiv 2) = 16 from rfl, show wI .i64 16 = 16 from rfl, oreq_p (by omega), show ((16 : Int).toNat) = 16 from rfl, show (((s.drop 8).take 32).take 16) = (s.drop 8).take 16 by rw [List.take_take]; rfl, show ((((s.drop 8).take 32).drop 16).take (32 - 16)) = (s.drop 24).take 16 by rw [List.drop_take, List.drop_drop, List.take_take]; rfl, aget16 8 (by omega), Option.bind_some, aget16 24 (by omega), Option.bind_some, (hp 40).1, (hp 40).2]
      by_cases g5 : vK s 6 1 = 6
      · rw [show (vK s 6 1 != 6) = false by simpa using g5, cond_false, if_neg (by omega)]; rfl
      · rw [show (vK s 6 1 != 6) = true by simpa using g5, cond_true]
        by_cases g6 : vK s 6 1 = 17
        · rw [show (vK s 6 1 != 17) = false by simpa using g6, cond_false, if_neg (by omega)]; rfl
        · rw [show (vK s 6 1 != 17) = true by simpa using g6, cond_true, if_pos (.inr ⟨g5, g6⟩)]
    · rw [if_neg g2, if_neg g2]
      simp only []
      rw [hg0]; rfl
theorem rquoted_eq {s : List UInt8} (hs : s.length < 2 ^ 38) : R53_Quoted s = some (quoted53 s) := by
  unfold R53_Quoted R53_QuotedF
  have hz : (⟨0, ⟨false, 0, 0⟩, ⟨false, 0, 0⟩, 0, 0⟩, false) = none53 := rfl
  rw [hz]
  unfold quoted53
  have r0 := vK_rng s 0 1 256 (by decide)
  by_cases g0 : s.length < 20
  · rw [cond_p (by omega)]
    by_cases g1 : vK s 0 1 / 16 = 4
    · rw [if_pos g1, if_pos (by omega)]
    · rw [if_neg g1]
      by_cases g2 : vK s 0 1 / 16 = 6
      · rw [if_pos g2, if_pos (by omega)]
      · rw [if_neg g2]
  have e0 := vK_one (s := s) (p := 0) (by omega)
  have e9 := vK_one (s := s) (p := 9) (by omega)
  have e6 := vK_one (s := s) (p := 6) (by omega)
  have r9 := vK_rng s 9 1 256 (by decide)
  have r6 := vK_rng s 6 1 256 (by decide)
  rw [cond_n (by omega), List.getElem?_eq_getElem (show 0 < s.length by omega), List.getElem?_eq_getElem (show 9 < s.length by omega), List.getElem?_eq_getElem (show 6 < s.length by omega)]
  simp only [Option.bind_some]
  rw [← e0, ← e9, ← e6, Int.tdiv_eq_ediv_of_nonneg r0.1, Int.tmod_eq_emod_of_nonneg r0.1, wU8 (n := vK s 0 1 / 16) (by omega) (by omega), wI64 (n := vK s 0 1 % 16) (by omega) (by omega), wI64 (n := 4 * (vK s 0 1 % 16)) (by omega) (by omega), wI64 (n := vK s 9 1) (by omega) (by omega), wI64 (n := vK s 6 1) (by omega) (by omega), Int.mul_comm 4]
  obtain ⟨t, ht⟩ := Int.eq_ofNat_of_zero_le (show 0 ≤ vK s 0 1 % 16 * 4 by omega)
  rw [ht]
  simp only [Int.toNat_natCast]
  have M : ∀ (p k : Nat), 1 ≤ k → k ≤ 7 → p + k ≤ s.length → R02_Must s (p : Int) (k : Int) = some (vK s p k) := fun p k a b c => must_at (by omega) a b c
  by_cases g1 : vK s 0 1 / 16 = 4
  · rw [if_pos g1, show (vK s 0 1 / 16 == 4) = true by simpa using g1, cond_true]
    by_cases g2 : t < 20
    · rw [cond_p (by omega), if_pos (.inl g2)]
    rw [cond_n (by omega)]
    by_cases g3 : s.length < t
    · rw [cond_p (by omega), if_pos (.inr (.inl (by omega)))]
    rw [cond_n (by omega), oreq_p (by omega), R03_Sum_eq (by simp; omega), Option.bind_some]
    by_cases g4 : norm (wsum (s.take t)) = 65535
    · rw [g4, show ((((65535 : Nat) : Int) != 65535)) = false from rfl, cond_false, wI64 (n := (t : Int) + 4) (by omega) (by omega)]
      by_cases g5 : s.length < t + 4
      · rw [cond_p (by omega), if_pos (.inr (.inl g5))]
      rw [cond_n (by omega), wI64 (n := (t : Int) + 2) (by omega) (by omega), show (t : Int) + 2 = ((t + 2 : Nat) : Int) by omega]
      have m0 : R02_Must s (t : Int) 2 = some (vK s t 2) := M t 2 (by omega) (by omega) (by omega)
      have m2 : R02_Must s ((t + 2 : Nat) : Int) 2 = some (vK s (t + 2) 2) := M (t + 2) 2 (by omega) (by omega) (by omega)
      have a1 := a4get4 (s := (s.drop 12).take 4) (by simp; omega)
      have a2 := a4get4 (s := (s.drop 16).take 4) (by simp; omega)
      rw [vK_sub2 s 12 4 0 4 (by omega)] at a1
      rw [vK_sub2 s 16 4 0 4 (by omega)] at a2
      rw [m0, m2, a1, a2]
      simp only [Option.bind_some]
      rw [oreq_p (by omega), oreq_p (by omega)]
      by_cases g6 : vK s 9 1 = 6
      · rw [show (vK s 9 1 != 6) = false by simpa using g6, cond_false, if_neg (by omega)]; rfl
      · rw [show (vK s 9 1 != 6) = true by simpa using g6, cond_true]
        by_cases g7 : vK s 9 1 = 17
        · rw [show (vK s 9 1 != 17) = false by simpa using g7, cond_false, if_neg (by omega)]; rfl
        · rw [show (vK s 9 1 != 17) = true by simpa using g7, cond_true, if_pos (.inr (.inr (.inr ⟨g6, g7⟩)))]
    · rw [if_pos (.inr (.inr (.inl g4))), show ((((norm (wsum (s.take t)) : Nat) : Int) != 65535)) = true by simp; omega]; rfl
  · rw [if_neg g1, show (vK s 0 1 / 16 == 4) = false by simpa using g1, cond_false]
    by_cases g2 : vK s 0 1 / 16 = 6
    · rw [if_pos g2, show (vK s 0 1 / 16 == 6) = true by simpa using g2, cond_true]
      by_cases g3 : s.length < 44
      · rw [cond_p (by omega), if_pos (.inl g3)]
      have m0 : R02_Must s 40 2 = some (vK s 40 2) := M 40 2 (by omega) (by omega) (by omega)
      have m2 : R02_Must s 42 2 = some (vK s 42 2) := M 42 2 (by omega) (by omega) (by omega)
      rw [cond_n (by omega), m0, m2, a4get16 8 (by omega), a4get16 24 (by omega)]
      simp only [Option.bind_some]
      rw [oreq_p (by omega), oreq_p (by omega)]
      by_cases g6 : vK s 6 1 = 6
      · rw [show (vK s 6 1 != 6) = false by simpa using g6, cond_false, if_neg (by omega)]; rfl
      · rw [show (vK s 6 1 != 6) = true by simpa using g6, cond_true]
        by_cases g7 : vK s 6 1 = 17
        · rw [show (vK s 6 1 != 17) = false by simpa using g7, cond_false, if_neg (by omega)]; rfl
        · rw [show (vK s 6 1 != 17) = true by simpa using g7, cond_true, if_pos (.inr ⟨g6, g7⟩)]
    · rw [if_neg g2, show (vK s 0 1 / 16 == 6) = false by simpa using g2, cond_false]
      cases decide ((s.length : Int) < 44) <;> rfl
def backT (t : api_Tuple) : api_Tuple := ⟨t.Proto, t.Dst, t.Src, t.DPort, t.SPort⟩
theorem tback_eq (t : api_Tuple) : tuple_Back t = some (backT t) := rfl
theorem rback_eq (t : api_Tuple) : R13_Back t = some (backT t) := rfl
def about53 (m : icmp_Message) : api_Tuple × Bool := if (quoted53 m.Quote).2 = false ∨ m.Kind < 1 ∨ 3 < m.Kind then none53 else (backT (quoted53 m.Quote).1, true)
theorem iabout_eq {m : icmp_Message} (hs : m.Quote.length < 2 ^ 38) : icmp_About m = some (about53 m) := by
  unfold icmp_About icmp_AboutF about53
  have hz : (⟨0, ⟨false, 0, 0⟩, ⟨false, 0, 0⟩, 0, 0⟩, false) = none53 := rfl
  rw [hz, iquoted_eq hs, Option.bind_some]
  cases h : (quoted53 m.Quote).2
  · rw [if_pos (.inl rfl)]; rfl
  · rw [Bool.not_true, cond_false]
    by_cases g1 : m.Kind < 1
    · rw [cond_p g1, if_pos (.inr (.inl g1))]
    by_cases g2 : m.Kind > 3
    · rw [cond_n g1, cond_p g2, if_pos (.inr (.inr g2))]
    rw [cond_n g1, cond_n g2, tback_eq, Option.bind_some, if_neg (fun h => h.elim (fun h => by cases h) fun h => by omega)]
theorem rabout_eq {m : icmp_Message} (hs : m.Quote.length < 2 ^ 38) : R53_About m = some (about53 m) := by
  unfold R53_About R53_AboutF about53
  have hz : (⟨0, ⟨false, 0, 0⟩, ⟨false, 0, 0⟩, 0, 0⟩, false) = none53 := rfl
  rw [hz, rquoted_eq hs, Option.bind_some]
  cases h : (quoted53 m.Quote).2
  · rw [if_pos (.inl rfl)]; rfl
  · rw [Bool.not_true, cond_false]
    by_cases g1 : m.Kind < 1
    · rw [cond_p g1, if_pos (.inr (.inl g1))]
    by_cases g2 : m.Kind > 3
    · rw [cond_n g1, cond_p g2, if_pos (.inr (.inr g2))]
    rw [cond_n g1, cond_n g2, rback_eq, Option.bind_some, if_neg (fun h => h.elim (fun h => by cases h) fun h => by omega)]
theorem awake53q : law53_awake = some true := by decide +kernel
theorem icmpQuotes (m : icmp_Message) : law53_IcmpQuotes m = some true := by
  unfold law53_IcmpQuotes law53_IcmpQuotesF
  rw [awake53q]
  by_cases g1 : (m.Quote.length : Int) > 300
  · rw [cond_p g1]; rfl
  rw [cond_n g1, iquoted_eq (by omega), rquoted_eq (by omega), show law53_of m = some m from rfl, Option.bind_some, Option.bind_some, Option.bind_some, iabout_eq (by omega), rabout_eq (by omega)]
  simp only [Option.bind_some, beq_self_eq_true, cond_true, Bool.and_self]
end Go.Vm.Code
