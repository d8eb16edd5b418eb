import Derived.Test.YtdnhoocoofnibaaMIpfourTellsa
namespace Go.Vm.Code
open Go Go.Vm Go.Proofs
set_option maxRecDepth 100000
set_option maxHeartbeats 4000000
set_option linter.unusedVariables false

/-! cloakroom/ipfour.Get -/
def ipfour_GetF (check_Right : (List UInt8) → Option Bool) (ipfour_fields_address : ipfour_fields → Option (api_Addr × octet_Reader)) (octet_New : (List UInt8) → Option octet_Reader) (octet_Reader_Num : octet_Reader → Int → Option (Int × octet_Reader)) (octet_Reader_Text : octet_Reader → Int → Option ((List UInt8) × octet_Reader)) (s : List UInt8) : Option (ipfour_Head × (List UInt8) × Int) :=
  cond (decide ((s.length : Int) < 20))
    (
    some ((ipfour_Head.mk 0 0 false 0 0 (api_Addr.mk false 0 0) (api_Addr.mk false 0 0) [], [], 2)))
    (
    (octet_New s).bind fun n =>
    (octet_Reader_Num n 1).bind fun n1 =>
    (octet_Reader_Num n1.2 1).bind fun n2 =>
    (octet_Reader_Num n2.2 2).bind fun n3 =>
    cond ((n1.1.fdiv (2 ^ 4)) != 4)
      (
      some ((ipfour_Head.mk 0 0 false 0 0 (api_Addr.mk false 0 0) (api_Addr.mk false 0 0) [], [], 3)))
      (
      let t := decide ((wI .i64 ((andI .i64 n1.1 15) * 4)) < 20)
      cond (t)
        (
        some ((ipfour_Head.mk 0 0 false 0 0 (api_Addr.mk false 0 0) (api_Addr.mk false 0 0) [], [], 3)))
        (
        let t1 := decide (n3.1 < (wI .i64 ((andI .i64 n1.1 15) * 4)))
        cond (t1)
          (
          some ((ipfour_Head.mk 0 0 false 0 0 (api_Addr.mk false 0 0) (api_Addr.mk false 0 0) [], [], 3)))
          (
          cond (decide (n3.1 > (s.length : Int)))
            (
            some ((ipfour_Head.mk 0 0 false 0 0 (api_Addr.mk false 0 0) (api_Addr.mk false 0 0) [], [], 2)))
            (
            oreq (decide ((0 : Int) ≤ (wI .i64 ((andI .i64 n1.1 15) * 4)) ∧ (wI .i64 ((andI .i64 n1.1 15) * 4)) ≤ (s.length : Int))) <|
            let t2 := s.take (wI .i64 ((andI .i64 n1.1 15) * 4)).toNat
            (check_Right t2).bind fun xr =>
            cond (!xr)
              (
              some ((ipfour_Head.mk 0 0 false 0 0 (api_Addr.mk false 0 0) (api_Addr.mk false 0 0) [], [], 4)))
              (
              (octet_Reader_Num n3.2 2).bind fun n4 =>
              (octet_Reader_Num n4.2 2).bind fun n5 =>
              cond ((andnI .i64 n5.1 16384) != 0)
                (
                some ((ipfour_Head.mk 0 0 false 0 0 (api_Addr.mk false 0 0) (api_Addr.mk false 0 0) [], [], 7)))
                (
                (octet_Reader_Num n5.2 1).bind fun n6 =>
                (octet_Reader_Num n6.2 1).bind fun n7 =>
                (octet_Reader_Num n7.2 2).bind fun n8 =>
                (ipfour_fields_address (ipfour_fields.mk n8.2)).bind fun a =>
                (ipfour_fields_address (ipfour_fields.mk a.2)).bind fun a1 =>
                let t3 := wI .i64 ((wI .i64 ((andI .i64 n1.1 15) * 4)) - 20)
                (octet_Reader_Text a1.2 t3).bind fun t4 =>
                let t5 := wI .i64 (n3.1 - (wI .i64 ((andI .i64 n1.1 15) * 4)))
                (octet_Reader_Text t4.2 t5).bind fun t6 =>
                some ((ipfour_Head.mk n2.1 n4.1 (n5.1 != 0) n6.1 n7.1 a.1 a1.1 t4.1, t6.1, 0)))))))))
def rx24 (x : ipfour_Head × (List UInt8) × Int) : SRes := ⟨.tuple ⟨[.agg ⟨[.int .i64 x.1.Class, .int .i64 x.1.Mark, .bool x.1.Whole, .int .i64 x.1.TTL, .int .i64 x.1.Proto, .bool x.1.Src.V6, .int .u64 x.1.Src.Hi, .int .u64 x.1.Src.Lo, .bool x.1.Dst.V6, .int .u64 x.1.Dst.Hi, .int .u64 x.1.Dst.Lo, .string ⟨⟨x.1.Options⟩⟩]⟩, .string ⟨⟨x.2.1⟩⟩, .int .i64 x.2.2]⟩, [], []⟩
def r24 (g : (List UInt8) → Option (ipfour_Head × (List UInt8) × Int)) : Dec := dV asS fun (y0 : List UInt8) => dEnd (ofG (g y0) rx24)
theorem r24_c {g : (List UInt8) → Option (ipfour_Head × (List UInt8) × Int)} {y0 : List UInt8} {x : ipfour_Head × (List UInt8) × Int} (hx : g y0 = some x) : r24 g [.string ⟨⟨y0⟩⟩] [] = some (rx24 x) := (dV_eq (asS_c)).trans (ofG_eq hx)
def s24 (g : (List UInt8) → Option (ipfour_Head × (List UInt8) × Int)) : Summ := ⟨[.v], r24 g⟩
theorem r24_eq {g : (List UInt8) → Option (ipfour_Head × (List UInt8) × Int)} {y0 : List UInt8} {x : ipfour_Head × (List UInt8) × Int} (hx : g y0 = some x) : (s24 g).run [.string ⟨⟨y0⟩⟩] [] = some (rx24 x) := r24_c hx
abbrev sums24 (check_Right : (List UInt8) → Option Bool) (ipfour_fields_address : ipfour_fields → Option (api_Addr × octet_Reader)) (octet_New : (List UInt8) → Option octet_Reader) (octet_Reader_Num : octet_Reader → Int → Option (Int × octet_Reader)) (octet_Reader_Text : octet_Reader → Int → Option ((List UInt8) × octet_Reader)) : List (Nat × Summ) := [(73, s73 check_Right), (82, s82 ipfour_fields_address), (70, s70 octet_New), (71, s71 octet_Reader_Num), (83, s83 octet_Reader_Text)]
theorem leads24 (check_Right : (List UInt8) → Option Bool) (ipfour_fields_address : ipfour_fields → Option (api_Addr × octet_Reader)) (octet_New : (List UInt8) → Option octet_Reader) (octet_Reader_Num : octet_Reader → Int → Option (Int × octet_Reader)) (octet_Reader_Text : octet_Reader → Int → Option ((List UInt8) × octet_Reader)) (hS : SumsOK Try.prog (aget (sums24 check_Right ipfour_fields_address octet_New octet_Reader_Num octet_Reader_Text))) (s : List UInt8) (res : ipfour_Head × (List UInt8) × Int) (h : ipfour_GetF check_Right ipfour_fields_address octet_New octet_Reader_Num octet_Reader_Text s = some res) :
    Leads Try.prog 24 0 ⟨⟨24, 102, [(0, .string ⟨⟨s⟩⟩)], [.code k24_54], [], false, none⟩, [], [], 0⟩ (fun v H _ => Res 0 (rx24 res) v H) := by
  unfold ipfour_GetF at h
  refine ev_ok tab_ok hS true 3000 ?_
  conv => whnf
  refine br.h h ?_ ?_ ?_
  · rfl
  · clear h; intro hb h; conv => whnf
    all_goals (cases h)
    all_goals exact Res.of [] rfl nw_0 (by decide) js_0 wr_0
  clear h; intro hb h; conv => whnf
  obtain ⟨n, hy, h2⟩ := obind.elim h; clear h; have h := h2; clear h2
  refine sumK.introF [1] (sumRun_of (aqs := [.string ⟨⟨s⟩⟩]) (ws := []) (n := 1) (m := 0) (t' := 2) (ra_cons rfl rfl ra_nil) rfl (by rfl) (r70_eq hy) rfl rfl rfl rfl wb_nil (an_cons (rfl) an_nil) rfl) ?_
  conv => whnf
  obtain ⟨n1, hy, h2⟩ := obind.elim h; clear h; have h := h2; clear h2
  refine sumK.introF [1] (sumRun_of (aqs := [.pointer (some ⟨0, 0, none⟩), .int .i64 1]) (ws := [.win 1 0 3 true]) (n := 0) (m := 0) (t' := 3) (ra_cons rfl rfl (ra_cons rfl rfl ra_nil)) rfl (by rfl) (r71_eq hy) rfl rfl rfl rfl (wb_win rfl rfl rfl ⟨rfl, Nat.le_of_ble_eq_true rfl⟩ rfl rfl wb_nil) an_nil rfl) ?_
  conv => whnf
  obtain ⟨n2, hy, h2⟩ := obind.elim h; clear h; have h := h2; clear h2
  refine sumK.introF [1] (sumRun_of (aqs := [.pointer (some ⟨0, 0, none⟩), .int .i64 1]) (ws := [.win 1 0 3 true]) (n := 0) (m := 0) (t' := 3) (ra_cons rfl rfl (ra_cons rfl rfl ra_nil)) rfl (by rfl) (r71_eq hy) rfl rfl rfl rfl (wb_win rfl rfl rfl ⟨rfl, Nat.le_of_ble_eq_true rfl⟩ rfl rfl wb_nil) an_nil rfl) ?_
  conv => whnf
  obtain ⟨n3, hy, h2⟩ := obind.elim h; clear h; have h := h2; clear h2
  refine sumK.introF [1] (sumRun_of (aqs := [.pointer (some ⟨0, 0, none⟩), .int .i64 2]) (ws := [.win 1 0 3 true]) (n := 0) (m := 0) (t' := 4) (ra_cons rfl rfl (ra_cons rfl rfl ra_nil)) rfl (by rfl) (r71_eq hy) rfl rfl rfl rfl (wb_win rfl rfl rfl ⟨rfl, Nat.le_of_ble_eq_true rfl⟩ rfl rfl wb_nil) an_nil rfl) ?_
  conv => whnf
  refine br.h h ?_ ?_ ?_
  · rfl
  · clear h; intro hb h; conv => whnf
    all_goals (cases h)
    all_goals exact Res.of [] rfl nw_0 (by decide) js_0 wr_0
  clear h; intro hb h; conv => whnf
  let t : Bool := decide ((wI .i64 ((andI .i64 n1.1 15) * 4)) < 20)
  refine br.h h ?_ ?_ ?_
  · rfl
  · clear h; intro hb h; conv => whnf
    all_goals (cases h)
    all_goals exact Res.of [] rfl nw_0 (by decide) js_0 wr_0
  clear h; intro hb h; conv => whnf
  let t1 : Bool := decide (n3.1 < (wI .i64 ((andI .i64 n1.1 15) * 4)))
  refine br.h h ?_ ?_ ?_
  · rfl
  · clear h; intro hb h; conv => whnf
    all_goals (cases h)
    all_goals exact Res.of [] rfl nw_0 (by decide) js_0 wr_0
  clear h; intro hb h; conv => whnf
  refine br.h h ?_ ?_ ?_
  · rfl
  · clear h; intro hb h; conv => whnf
    all_goals (cases h)
    all_goals exact Res.of [] rfl nw_0 (by decide) js_0 wr_0
  clear h; intro hb h; conv => whnf
  replace h := oreq.elim h; have hb := h.1; replace h := h.2
  first | (refine req.intro hb ?_; conv => whnf) | skip
  let t2 : List UInt8 := s.take (wI .i64 ((andI .i64 n1.1 15) * 4)).toNat
  obtain ⟨xr, hy, h2⟩ := obind.elim h; clear h; have h := h2; clear h2
  refine sumK.introF [] (sumRun_of (aqs := [.string ⟨⟨t2⟩⟩]) (ws := []) (n := 0) (m := 0) (t' := 4) (ra_cons rfl rfl ra_nil) rfl (by rfl) (r73_eq hy) rfl rfl rfl rfl wb_nil an_nil rfl) ?_
  conv => whnf
  refine br.h h ?_ ?_ ?_
  · rfl
  · clear h; intro hb h; conv => whnf
    all_goals (cases h)
    all_goals exact Res.of [] rfl nw_0 (by decide) js_0 wr_0
  clear h; intro hb h; conv => whnf
  obtain ⟨n4, hy, h2⟩ := obind.elim h; clear h; have h := h2; clear h2
  refine sumK.introF [1] (sumRun_of (aqs := [.pointer (some ⟨0, 0, none⟩), .int .i64 2]) (ws := [.win 1 0 3 true]) (n := 0) (m := 0) (t' := 4) (ra_cons rfl rfl (ra_cons rfl rfl ra_nil)) rfl (by rfl) (r71_eq hy) rfl rfl rfl rfl (wb_win rfl rfl rfl ⟨rfl, Nat.le_of_ble_eq_true rfl⟩ rfl rfl wb_nil) an_nil rfl) ?_
  conv => whnf
  obtain ⟨n5, hy, h2⟩ := obind.elim h; clear h; have h := h2; clear h2
  refine sumK.introF [1] (sumRun_of (aqs := [.pointer (some ⟨0, 0, none⟩), .int .i64 2]) (ws := [.win 1 0 3 true]) (n := 0) (m := 0) (t' := 4) (ra_cons rfl rfl (ra_cons rfl rfl ra_nil)) rfl (by rfl) (r71_eq hy) rfl rfl rfl rfl (wb_win rfl rfl rfl ⟨rfl, Nat.le_of_ble_eq_true rfl⟩ rfl rfl wb_nil) an_nil rfl) ?_
  conv => whnf
  refine br.h h ?_ ?_ ?_
  · rfl
  · clear h; intro hb h; conv => whnf
    all_goals (cases h)
    all_goals exact Res.of [] rfl nw_0 (by decide) js_0 wr_0
  clear h; intro hb h; conv => whnf
  obtain ⟨n6, hy, h2⟩ := obind.elim h; clear h; have h := h2; clear h2
  refine sumK.introF [1] (sumRun_of (aqs := [.pointer (some ⟨0, 0, none⟩), .int .i64 1]) (ws := [.win 1 0 3 true]) (n := 0) (m := 0) (t' := 6) (ra_cons rfl rfl (ra_cons rfl rfl ra_nil)) rfl (by rfl) (r71_eq hy) rfl rfl rfl rfl (wb_win rfl rfl rfl ⟨rfl, Nat.le_of_ble_eq_true rfl⟩ rfl rfl wb_nil) an_nil rfl) ?_
  conv => whnf
  obtain ⟨n7, hy, h2⟩ := obind.elim h; clear h; have h := h2; clear h2
  refine sumK.introF [1] (sumRun_of (aqs := [.pointer (some ⟨0, 0, none⟩), .int .i64 1]) (ws := [.win 1 0 3 true]) (n := 0) (m := 0) (t' := 9) (ra_cons rfl rfl (ra_cons rfl rfl ra_nil)) rfl (by rfl) (r71_eq hy) rfl rfl rfl rfl (wb_win rfl rfl rfl ⟨rfl, Nat.le_of_ble_eq_true rfl⟩ rfl rfl wb_nil) an_nil rfl) ?_
  conv => whnf
  obtain ⟨n8, hy, h2⟩ := obind.elim h; clear h; have h := h2; clear h2
  refine sumK.introF [1] (sumRun_of (aqs := [.pointer (some ⟨0, 0, none⟩), .int .i64 2]) (ws := [.win 1 0 3 true]) (n := 0) (m := 0) (t' := 11) (ra_cons rfl rfl (ra_cons rfl rfl ra_nil)) rfl (by rfl) (r71_eq hy) rfl rfl rfl rfl (wb_win rfl rfl rfl ⟨rfl, Nat.le_of_ble_eq_true rfl⟩ rfl rfl wb_nil) an_nil rfl) ?_
  conv => whnf
  obtain ⟨a, hy, h2⟩ := obind.elim h; clear h; have h := h2; clear h2
  refine sumK.introF [1] (sumRun_of (aqs := [.agg ⟨[.pointer (some ⟨0, 0, none⟩)]⟩]) (ws := [.blk 1 true]) (n := 0) (m := 0) (t' := 12) (ra_cons (ra_tr rfl rfl (vp_at rfl rfl rfl rfl vp_nil) rfl) rfl ra_nil) rfl (by rfl) (r82_eq hy) rfl rfl rfl rfl (wb_blk rfl rfl rfl rfl wb_nil) an_nil rfl) ?_
  conv => whnf
  obtain ⟨a1, hy, h2⟩ := obind.elim h; clear h; have h := h2; clear h2
  refine sumK.introF [1] (sumRun_of (aqs := [.agg ⟨[.pointer (some ⟨0, 0, none⟩)]⟩]) (ws := [.blk 1 true]) (n := 0) (m := 0) (t' := 14) (ra_cons (ra_tr rfl rfl (vp_at rfl rfl rfl rfl vp_nil) rfl) rfl ra_nil) rfl (by rfl) (r82_eq hy) rfl rfl rfl rfl (wb_blk rfl rfl rfl rfl wb_nil) an_nil rfl) ?_
  conv => whnf
  let t3 : Int := wI .i64 ((wI .i64 ((andI .i64 n1.1 15) * 4)) - 20)
  obtain ⟨t4, hy, h2⟩ := obind.elim h; clear h; have h := h2; clear h2
  refine sumK.introF [1] (sumRun_of (aqs := [.pointer (some ⟨0, 0, none⟩), .int .i64 t3]) (ws := [.win 1 0 3 true]) (n := 0) (m := 0) (t' := 16) (ra_cons rfl rfl (ra_cons rfl rfl ra_nil)) rfl (by rfl) (r83_eq hy) rfl rfl rfl rfl (wb_win rfl rfl rfl ⟨rfl, Nat.le_of_ble_eq_true rfl⟩ rfl rfl wb_nil) an_nil rfl) ?_
  conv => whnf
  let t5 : Int := wI .i64 (n3.1 - (wI .i64 ((andI .i64 n1.1 15) * 4)))
  obtain ⟨t6, hy, h2⟩ := obind.elim h; clear h; have h := h2; clear h2
  refine sumK.introF [1] (sumRun_of (aqs := [.pointer (some ⟨0, 0, none⟩), .int .i64 t5]) (ws := [.win 1 0 3 true]) (n := 0) (m := 0) (t' := 22) (ra_cons rfl rfl (ra_cons rfl rfl ra_nil)) rfl (by rfl) (r83_eq hy) rfl rfl rfl rfl (wb_win rfl rfl rfl ⟨rfl, Nat.le_of_ble_eq_true rfl⟩ rfl rfl wb_nil) an_nil rfl) ?_
  conv => whnf
  all_goals (cases h)
  all_goals exact Res.of [] rfl nw_0 (by decide) js_0 wr_0
theorem ok24 (check_Right : (List UInt8) → Option Bool) (ipfour_fields_address : ipfour_fields → Option (api_Addr × octet_Reader)) (octet_New : (List UInt8) → Option octet_Reader) (octet_Reader_Num : octet_Reader → Int → Option (Int × octet_Reader)) (octet_Reader_Text : octet_Reader → Int → Option ((List UInt8) × octet_Reader)) (hS : SumsOK Try.prog (aget (sums24 check_Right ipfour_fields_address octet_New octet_Reader_Num octet_Reader_Text))) : SumOK Try.prog 24 (s24 (ipfour_GetF check_Right ipfour_fields_address octet_New octet_Reader_Num octet_Reader_Text)) := by
  refine SumOK.of_leads tab_ok (fun ar os r ha hr => ?_) ⟨Try.f24, rfl, by decide, rfl⟩
  replace hr : r24 (ipfour_GetF check_Right ipfour_fields_address octet_New octet_Reader_Num octet_Reader_Text) ar (conts os) = some r := hr
  unfold r24 at hr
  generalize hc : conts os = C at hr
  have hq := dV.elim hr; clear hr; obtain ⟨v0, l1, y0, rfl, e0, hr⟩ := hq; obtain rfl := asS_eq _ _ e0
  have hq := dEnd.elim hr; clear hr; obtain ⟨rfl, rfl, hr⟩ := hq
  have hq := ofG.elim hr; clear hr; obtain ⟨x, h, rfl⟩ := hq
  obtain rfl := kinds_nil hc
  exact ⟨_, rfl, leads24 check_Right ipfour_fields_address octet_New octet_Reader_Num octet_Reader_Text hS _ x h⟩
def ipfour_Get : (List UInt8) → Option (ipfour_Head × (List UInt8) × Int) := ipfour_GetF check_Right ipfour_fields_address octet_New octet_Reader_Num octet_Reader_Text
theorem lift24 : SumOK Try.prog 24 (s24 ipfour_Get) := ok24 check_Right ipfour_fields_address octet_New octet_Reader_Num octet_Reader_Text (SumsOK.of_tab ⟨lift73, lift82, lift70, lift71, lift83, trivial⟩)
end Go.Vm.Code

namespace Go.Vm.Code
open Go Go.Vm Go.Proofs
set_option maxRecDepth 100000
set_option maxHeartbeats 4000000
set_option linter.unusedVariables false

/-! cloakroom/cloakroomref05.in -/
def R05_inF (n : Int) (most : Int) : Option Bool :=
  cond (decide (n ≥ 0))
    (
    some (decide (n ≤ most)))
    (
    some (false))
def rx119 (x : Bool) : SRes := ⟨.bool x, [], []⟩
def r119 (g : Int → Int → Option Bool) : Dec := dV (asI .i64) fun (y0 : Int) => dV (asI .i64) fun (y1 : Int) => dEnd (ofG (g y0 y1) rx119)
theorem r119_c {g : Int → Int → Option Bool} {y0 : Int} {y1 : Int} {x : Bool} (hx : g y0 y1 = some x) : r119 g [.int .i64 y0, .int .i64 y1] [] = some (rx119 x) := (dV_eq (asI_c _)).trans ((dV_eq (asI_c _)).trans (ofG_eq hx))
def s119 (g : Int → Int → Option Bool) : Summ := ⟨[.v, .v], r119 g⟩
theorem r119_eq {g : Int → Int → Option Bool} {y0 : Int} {y1 : Int} {x : Bool} (hx : g y0 y1 = some x) : (s119 g).run [.int .i64 y0, .int .i64 y1] [] = some (rx119 x) := r119_c hx
abbrev sums119 : List (Nat × Summ) := []
theorem leads119 (hS : SumsOK Try.prog (aget (sums119))) (n : Int) (most : Int) (res : Bool) (h : R05_inF n most = some res) :
    Leads Try.prog 119 0 ⟨⟨119, 12, [(0, .int .i64 n), (1, .int .i64 most)], [.code k119_3], [], false, none⟩, [], [], 0⟩ (fun v H _ => Res 0 (rx119 res) v H) := by
  unfold R05_inF at h
  refine ev_ok tab_ok hS true 3000 ?_
  conv => whnf
  refine br.h h ?_ ?_ ?_
  · rfl
  · clear h; intro hb h; conv => whnf
    all_goals (cases h)
    all_goals exact Res.of [] rfl nw_0 (by decide) js_0 wr_0
  clear h; intro hb h; conv => whnf
  all_goals (cases h)
  all_goals exact Res.of [] rfl nw_0 (by decide) js_0 wr_0
theorem ok119 (hS : SumsOK Try.prog (aget (sums119))) : SumOK Try.prog 119 (s119 (R05_inF)) := by
  refine SumOK.of_leads tab_ok (fun ar os r ha hr => ?_) ⟨Try.f119, rfl, by decide, rfl⟩
  replace hr : r119 (R05_inF) ar (conts os) = some r := hr
  unfold r119 at hr
  generalize hc : conts os = C at hr
  have hq := dV.elim hr; clear hr; obtain ⟨v0, l1, y0, rfl, e0, hr⟩ := hq; obtain rfl := asI_eq _ _ _ e0
  have hq := dV.elim hr; clear hr; obtain ⟨v1, l2, y1, rfl, e1, hr⟩ := hq; obtain rfl := asI_eq _ _ _ e1
  have hq := dEnd.elim hr; clear hr; obtain ⟨rfl, rfl, hr⟩ := hq
  have hq := ofG.elim hr; clear hr; obtain ⟨x, h, rfl⟩ := hq
  obtain rfl := kinds_nil hc
  exact ⟨_, rfl, leads119 hS _ _ x h⟩
def R05_in : Int → Int → Option Bool := R05_inF
theorem lift119 : SumOK Try.prog 119 (s119 R05_in) := ok119 (SumsOK.of_tab trivial)
end Go.Vm.Code

namespace Go.Vm.Code
open Go Go.Vm Go.Proofs
set_option maxRecDepth 100000
set_option maxHeartbeats 4000000
set_option linter.unusedVariables false

/-! cloakroom/cloakroomref05.four -/
def R05_fourF (R04_Right : api_Addr → Option Bool) (a : api_Addr) : Option Bool :=
  (R04_Right a).bind fun xr =>
  cond (xr)
    (
    some (!a.V6))
    (
    some (false))
def rx120 (x : Bool) : SRes := ⟨.bool x, [], []⟩
def r120 (g : api_Addr → Option Bool) : Dec := dV uvapi_Addr fun (y0 : api_Addr) => dEnd (ofG (g y0) rx120)
theorem r120_c {g : api_Addr → Option Bool} {y0 : api_Addr} {x : Bool} (hx : g y0 = some x) : r120 g [.agg ⟨[.bool y0.V6, .int .u64 y0.Hi, .int .u64 y0.Lo]⟩] [] = some (rx120 x) := (dV_eq (uvapi_Addr_c _)).trans (ofG_eq hx)
def s120 (g : api_Addr → Option Bool) : Summ := ⟨[.v], r120 g⟩
theorem r120_eq {g : api_Addr → Option Bool} {y0 : api_Addr} {x : Bool} (hx : g y0 = some x) : (s120 g).run [.agg ⟨[.bool y0.V6, .int .u64 y0.Hi, .int .u64 y0.Lo]⟩] [] = some (rx120 x) := r120_c hx
abbrev sums120 (R04_Right : api_Addr → Option Bool) : List (Nat × Summ) := [(86, s86 R04_Right)]
theorem leads120 (R04_Right : api_Addr → Option Bool) (hS : SumsOK Try.prog (aget (sums120 R04_Right))) (a : api_Addr) (res : Bool) (h : R05_fourF R04_Right a = some res) :
    Leads Try.prog 120 0 ⟨⟨120, 10, [(0, .agg ⟨[.bool a.V6, .int .u64 a.Hi, .int .u64 a.Lo]⟩)], [.code k120_3], [], false, none⟩, [], [], 0⟩ (fun v H _ => Res 0 (rx120 res) v H) := by
  unfold R05_fourF at h
  refine ev_ok tab_ok hS true 3000 ?_
  conv => whnf
  obtain ⟨xr, hy, h2⟩ := obind.elim h; clear h; have h := h2; clear h2
  refine sumK.introF [] (sumRun_of (aqs := [.agg ⟨[.bool a.V6, .int .u64 a.Hi, .int .u64 a.Lo]⟩]) (ws := []) (n := 0) (m := 0) (t' := 1) (ra_cons rfl rfl ra_nil) rfl (by rfl) (r86_eq hy) rfl rfl rfl rfl wb_nil an_nil rfl) ?_
  conv => whnf
  refine br.h h ?_ ?_ ?_
  · rfl
  · clear h; intro hb h; conv => whnf
    all_goals (cases h)
    all_goals exact Res.of [] rfl nw_0 (by decide) js_0 wr_0
  clear h; intro hb h; conv => whnf
  all_goals (cases h)
  all_goals exact Res.of [] rfl nw_0 (by decide) js_0 wr_0
theorem ok120 (R04_Right : api_Addr → Option Bool) (hS : SumsOK Try.prog (aget (sums120 R04_Right))) : SumOK Try.prog 120 (s120 (R05_fourF R04_Right)) := by
  refine SumOK.of_leads tab_ok (fun ar os r ha hr => ?_) ⟨Try.f120, rfl, by decide, rfl⟩
  replace hr : r120 (R05_fourF R04_Right) ar (conts os) = some r := hr
  unfold r120 at hr
  generalize hc : conts os = C at hr
  have hq := dV.elim hr; clear hr; obtain ⟨v0, l1, y0, rfl, e0, hr⟩ := hq; obtain rfl := uvapi_Addr_eq _ _ e0
  have hq := dEnd.elim hr; clear hr; obtain ⟨rfl, rfl, hr⟩ := hq
  have hq := ofG.elim hr; clear hr; obtain ⟨x, h, rfl⟩ := hq
  obtain rfl := kinds_nil hc
  exact ⟨_, rfl, leads120 R04_Right hS _ x h⟩
def R05_four : api_Addr → Option Bool := R05_fourF R04_Right
theorem lift120 : SumOK Try.prog 120 (s120 R05_four) := ok120 R04_Right (SumsOK.of_tab ⟨lift86, trivial⟩)
end Go.Vm.Code

namespace Go.Vm.Code
open Go Go.Vm Go.Proofs
set_option maxRecDepth 100000
set_option maxHeartbeats 4000000
set_option linter.unusedVariables false

/-! cloakroom/cloakroomref05.Right -/
def R05_RightF (R05_four : api_Addr → Option Bool) (R05_in : Int → Int → Option Bool) (ha0 : ipfour_Head) : Option Bool :=
  (R05_in ha0.Class 255).bind fun i =>
  cond (i)
    (
    (R05_in ha0.Mark 65535).bind fun i1 =>
    cond (i1)
      (
      (R05_in ha0.TTL 255).bind fun i2 =>
      cond (i2)
        (
        (R05_in ha0.Proto 255).bind fun i3 =>
        cond (i3)
          (
          (R05_four ha0.Src).bind fun f =>
          cond (f)
            (
            (R05_four ha0.Dst).bind fun f1 =>
            cond (f1)
              (
              cond (decide ((ha0.Options.length : Int) ≤ 40))
                (
                some (((ha0.Options.length : Int).tmod 4) == 0))
                (
                some (false)))
              (
              some (false)))
            (
            some (false)))
          (
          some (false)))
        (
        some (false)))
      (
      some (false)))
    (
    some (false))
def rx79 (x : Bool) : SRes := ⟨.bool x, [], []⟩
def r79 (g : ipfour_Head → Option Bool) : Dec := dV uvipfour_Head fun (y0 : ipfour_Head) => dEnd (ofG (g y0) rx79)
theorem r79_c {g : ipfour_Head → Option Bool} {y0 : ipfour_Head} {x : Bool} (hx : g y0 = some x) : r79 g [.agg ⟨[.int .i64 y0.Class, .int .i64 y0.Mark, .bool y0.Whole, .int .i64 y0.TTL, .int .i64 y0.Proto, .bool y0.Src.V6, .int .u64 y0.Src.Hi, .int .u64 y0.Src.Lo, .bool y0.Dst.V6, .int .u64 y0.Dst.Hi, .int .u64 y0.Dst.Lo, .string ⟨⟨y0.Options⟩⟩]⟩] [] = some (rx79 x) := (dV_eq (uvipfour_Head_c _)).trans (ofG_eq hx)
def s79 (g : ipfour_Head → Option Bool) : Summ := ⟨[.v], r79 g⟩
theorem r79_eq {g : ipfour_Head → Option Bool} {y0 : ipfour_Head} {x : Bool} (hx : g y0 = some x) : (s79 g).run [.agg ⟨[.int .i64 y0.Class, .int .i64 y0.Mark, .bool y0.Whole, .int .i64 y0.TTL, .int .i64 y0.Proto, .bool y0.Src.V6, .int .u64 y0.Src.Hi, .int .u64 y0.Src.Lo, .bool y0.Dst.V6, .int .u64 y0.Dst.Hi, .int .u64 y0.Dst.Lo, .string ⟨⟨y0.Options⟩⟩]⟩] [] = some (rx79 x) := r79_c hx
abbrev sums79 (R05_four : api_Addr → Option Bool) (R05_in : Int → Int → Option Bool) : List (Nat × Summ) := [(120, s120 R05_four), (119, s119 R05_in)]
theorem leads79 (R05_four : api_Addr → Option Bool) (R05_in : Int → Int → Option Bool) (hS : SumsOK Try.prog (aget (sums79 R05_four R05_in))) (ha0 : ipfour_Head) (res : Bool) (h : R05_RightF R05_four R05_in ha0 = some res) :
    Leads Try.prog 79 0 ⟨⟨79, 44, [(0, .agg ⟨[.int .i64 ha0.Class, .int .i64 ha0.Mark, .bool ha0.Whole, .int .i64 ha0.TTL, .int .i64 ha0.Proto, .bool ha0.Src.V6, .int .u64 ha0.Src.Hi, .int .u64 ha0.Src.Lo, .bool ha0.Dst.V6, .int .u64 ha0.Dst.Hi, .int .u64 ha0.Dst.Lo, .string ⟨⟨ha0.Options⟩⟩]⟩)], [.code k79_3], [], false, none⟩, [], [], 0⟩ (fun v H _ => Res 0 (rx79 res) v H) := by
  unfold R05_RightF at h
  refine ev_ok tab_ok hS true 3000 ?_
  conv => whnf
  obtain ⟨i, hy, h2⟩ := obind.elim h; clear h; have h := h2; clear h2
  refine sumK.introF [] (sumRun_of (aqs := [.int .i64 ha0.Class, .int .i64 255]) (ws := []) (n := 0) (m := 0) (t' := 1) (ra_cons rfl rfl (ra_cons rfl rfl ra_nil)) rfl (by rfl) (r119_eq hy) rfl rfl rfl rfl wb_nil an_nil rfl) ?_
  conv => whnf
  refine br.h2 h ?_ ?_ ?_
  · rfl
  · clear h; intro hb h; conv => whnf
    all_goals (cases h)
    all_goals exact Res.of [] rfl nw_0 (by decide) js_0 wr_0
  clear h; intro hb h; conv => whnf
  obtain ⟨i1, hy, h2⟩ := obind.elim h; clear h; have h := h2; clear h2
  refine sumK.introF [] (sumRun_of (aqs := [.int .i64 ha0.Mark, .int .i64 65535]) (ws := []) (n := 0) (m := 0) (t' := 1) (ra_cons rfl rfl (ra_cons rfl rfl ra_nil)) rfl (by rfl) (r119_eq hy) rfl rfl rfl rfl wb_nil an_nil rfl) ?_
  conv => whnf
  refine br.h2 h ?_ ?_ ?_
  · rfl
  · clear h; intro hb h; conv => whnf
    all_goals (cases h)
    all_goals exact Res.of [] rfl nw_0 (by decide) js_0 wr_0
  clear h; intro hb h; conv => whnf
  obtain ⟨i2, hy, h2⟩ := obind.elim h; clear h; have h := h2; clear h2
  refine sumK.introF [] (sumRun_of (aqs := [.int .i64 ha0.TTL, .int .i64 255]) (ws := []) (n := 0) (m := 0) (t' := 1) (ra_cons rfl rfl (ra_cons rfl rfl ra_nil)) rfl (by rfl) (r119_eq hy) rfl rfl rfl rfl wb_nil an_nil rfl) ?_
  conv => whnf
  refine br.h2 h ?_ ?_ ?_
  · rfl
  · clear h; intro hb h; conv => whnf
    all_goals (cases h)
    all_goals exact Res.of [] rfl nw_0 (by decide) js_0 wr_0
  clear h; intro hb h; conv => whnf
  obtain ⟨i3, hy, h2⟩ := obind.elim h; clear h; have h := h2; clear h2
  refine sumK.introF [] (sumRun_of (aqs := [.int .i64 ha0.Proto, .int .i64 255]) (ws := []) (n := 0) (m := 0) (t' := 1) (ra_cons rfl rfl (ra_cons rfl rfl ra_nil)) rfl (by rfl) (r119_eq hy) rfl rfl rfl rfl wb_nil an_nil rfl) ?_
  conv => whnf
  refine br.h2 h ?_ ?_ ?_
  · rfl
  · clear h; intro hb h; conv => whnf
    all_goals (cases h)
    all_goals exact Res.of [] rfl nw_0 (by decide) js_0 wr_0
  clear h; intro hb h; conv => whnf
  obtain ⟨f, hy, h2⟩ := obind.elim h; clear h; have h := h2; clear h2
  refine sumK.introF [] (sumRun_of (aqs := [.agg ⟨[.bool ha0.Src.V6, .int .u64 ha0.Src.Hi, .int .u64 ha0.Src.Lo]⟩]) (ws := []) (n := 0) (m := 0) (t' := 1) (ra_cons rfl rfl ra_nil) rfl (by rfl) (r120_eq hy) rfl rfl rfl rfl wb_nil an_nil rfl) ?_
  conv => whnf
  refine br.h2 h ?_ ?_ ?_
  · rfl
  · clear h; intro hb h; conv => whnf
    all_goals (cases h)
    all_goals exact Res.of [] rfl nw_0 (by decide) js_0 wr_0
  clear h; intro hb h; conv => whnf
  obtain ⟨f1, hy, h2⟩ := obind.elim h; clear h; have h := h2; clear h2
  refine sumK.introF [] (sumRun_of (aqs := [.agg ⟨[.bool ha0.Dst.V6, .int .u64 ha0.Dst.Hi, .int .u64 ha0.Dst.Lo]⟩]) (ws := []) (n := 0) (m := 0) (t' := 1) (ra_cons rfl rfl ra_nil) rfl (by rfl) (r120_eq hy) rfl rfl rfl rfl wb_nil an_nil rfl) ?_
  conv => whnf
  refine br.h2 h ?_ ?_ ?_
  · rfl
  · clear h; intro hb h; conv => whnf
    all_goals (cases h)
    all_goals exact Res.of [] rfl nw_0 (by decide) js_0 wr_0
  clear h; intro hb h; conv => whnf
  refine br.h h ?_ ?_ ?_
  · rfl
  · clear h; intro hb h; conv => whnf
    all_goals (cases h)
    all_goals exact Res.of [] rfl nw_0 (by decide) js_0 wr_0
  clear h; intro hb h; conv => whnf
  all_goals (cases h)
  all_goals exact Res.of [] rfl nw_0 (by decide) js_0 wr_0
theorem ok79 (R05_four : api_Addr → Option Bool) (R05_in : Int → Int → Option Bool) (hS : SumsOK Try.prog (aget (sums79 R05_four R05_in))) : SumOK Try.prog 79 (s79 (R05_RightF R05_four R05_in)) := by
  refine SumOK.of_leads tab_ok (fun ar os r ha hr => ?_) ⟨Try.f79, rfl, by decide, rfl⟩
  replace hr : r79 (R05_RightF R05_four R05_in) ar (conts os) = some r := hr
  unfold r79 at hr
  generalize hc : conts os = C at hr
  have hq := dV.elim hr; clear hr; obtain ⟨v0, l1, y0, rfl, e0, hr⟩ := hq; obtain rfl := uvipfour_Head_eq _ _ e0
  have hq := dEnd.elim hr; clear hr; obtain ⟨rfl, rfl, hr⟩ := hq
  have hq := ofG.elim hr; clear hr; obtain ⟨x, h, rfl⟩ := hq
  obtain rfl := kinds_nil hc
  exact ⟨_, rfl, leads79 R05_four R05_in hS _ x h⟩
def R05_Right : ipfour_Head → Option Bool := R05_RightF R05_four R05_in
theorem lift79 : SumOK Try.prog 79 (s79 R05_Right) := ok79 R05_four R05_in (SumsOK.of_tab ⟨lift120, lift119, trivial⟩)
end Go.Vm.Code

namespace Go.Vm.Code
open Go Go.Vm Go.Proofs
set_option maxRecDepth 100000
set_option maxHeartbeats 4000000
set_option linter.unusedVariables false

/-! cloakroom/cloakroomref05.Put -/
def R05_PutF (R03_Of : (List UInt8) → Option Int) (R03_Set : (List UInt8) → Int → Int → Int → Option (List UInt8)) (R04_Put : api_Addr → Option (List UInt8)) (R05_Right : ipfour_Head → Option Bool) (R05_num : Int → Int → Option (List UInt8)) (ha0 : ipfour_Head) (payload : List UInt8) : Option ((List UInt8) × Int) :=
  (R05_Right ha0).bind fun xr =>
  cond (!xr)
    (
    some (([], 1)))
    (
    let t := wI .i64 (20 + (ha0.Options.length : Int))
    let t1 := decide ((payload.length : Int) > (wI .i64 (65535 - t)))
    cond (t1)
      (
      some (([], 5)))
      (
      cond (ha0.Whole)
        (
        (R05_num (wI .i64 (64 + (wI .i64 (t.tdiv 4)))) 1).bind fun n =>
        (R05_num ha0.Class 1).bind fun n1 =>
        oreq (decide (n.length + n1.length < 2 ^ 63)) <|
        (R05_num (wI .i64 (t + (payload.length : Int))) 2).bind fun n2 =>
        oreq (decide ((n ++ n1).length + n2.length < 2 ^ 63)) <|
        (R05_num ha0.Mark 2).bind fun n3 =>
        oreq (decide (((n ++ n1) ++ n2).length + n3.length < 2 ^ 63)) <|
        (R05_num 64 1).bind fun n4 =>
        oreq (decide ((((n ++ n1) ++ n2) ++ n3).length + n4.length < 2 ^ 63)) <|
        (R05_num 0 1).bind fun n5 =>
        oreq (decide (((((n ++ n1) ++ n2) ++ n3) ++ n4).length + n5.length < 2 ^ 63)) <|
        (R05_num ha0.TTL 1).bind fun n6 =>
        oreq (decide ((((((n ++ n1) ++ n2) ++ n3) ++ n4) ++ n5).length + n6.length < 2 ^ 63)) <|
        let t2 := (((((n ++ n1) ++ n2) ++ n3) ++ n4) ++ n5) ++ n6
        (R05_num ha0.Proto 1).bind fun n7 =>
        oreq (decide (t2.length + n7.length < 2 ^ 63)) <|
        (R05_num 0 2).bind fun n8 =>
        oreq (decide ((t2 ++ n7).length + n8.length < 2 ^ 63)) <|
        (R04_Put ha0.Src).bind fun p =>
        oreq (decide (((t2 ++ n7) ++ n8).length + p.length < 2 ^ 63)) <|
        (R04_Put ha0.Dst).bind fun p1 =>
        oreq (decide ((((t2 ++ n7) ++ n8) ++ p).length + p1.length < 2 ^ 63)) <|
        oreq (decide (((((t2 ++ n7) ++ n8) ++ p) ++ p1).length + ha0.Options.length < 2 ^ 63)) <|
        let t3 := ((((t2 ++ n7) ++ n8) ++ p) ++ p1) ++ ha0.Options
        (R03_Of t3).bind fun xo =>
        (R03_Set t3 10 2 (wI .u64 xo)).bind fun s =>
        oreq (decide (s.length + payload.length < 2 ^ 63)) <|
        some ((s ++ payload, 0)))
        (
        (R05_num (wI .i64 (64 + (wI .i64 (t.tdiv 4)))) 1).bind fun n9 =>
        (R05_num ha0.Class 1).bind fun n10 =>
        oreq (decide (n9.length + n10.length < 2 ^ 63)) <|
        (R05_num (wI .i64 (t + (payload.length : Int))) 2).bind fun n11 =>
        oreq (decide ((n9 ++ n10).length + n11.length < 2 ^ 63)) <|
        (R05_num ha0.Mark 2).bind fun n12 =>
        oreq (decide (((n9 ++ n10) ++ n11).length + n12.length < 2 ^ 63)) <|
        (R05_num 0 1).bind fun n13 =>
        oreq (decide ((((n9 ++ n10) ++ n11) ++ n12).length + n13.length < 2 ^ 63)) <|
        (R05_num 0 1).bind fun n14 =>
        oreq (decide (((((n9 ++ n10) ++ n11) ++ n12) ++ n13).length + n14.length < 2 ^ 63)) <|
        let t4 := ((((n9 ++ n10) ++ n11) ++ n12) ++ n13) ++ n14
        (R05_num ha0.TTL 1).bind fun n15 =>
        oreq (decide (t4.length + n15.length < 2 ^ 63)) <|
        (R05_num ha0.Proto 1).bind fun n16 =>
        oreq (decide ((t4 ++ n15).length + n16.length < 2 ^ 63)) <|
        (R05_num 0 2).bind fun n17 =>
        oreq (decide (((t4 ++ n15) ++ n16).length + n17.length < 2 ^ 63)) <|
        (R04_Put ha0.Src).bind fun p2 =>
        oreq (decide ((((t4 ++ n15) ++ n16) ++ n17).length + p2.length < 2 ^ 63)) <|
        (R04_Put ha0.Dst).bind fun p3 =>
        oreq (decide (((((t4 ++ n15) ++ n16) ++ n17) ++ p2).length + p3.length < 2 ^ 63)) <|
        let t5 := ((((t4 ++ n15) ++ n16) ++ n17) ++ p2) ++ p3
        oreq (decide (t5.length + ha0.Options.length < 2 ^ 63)) <|
        (R03_Of (t5 ++ ha0.Options)).bind fun xo1 =>
        (R03_Set (t5 ++ ha0.Options) 10 2 (wI .u64 xo1)).bind fun s1 =>
        oreq (decide (s1.length + payload.length < 2 ^ 63)) <|
        some ((s1 ++ payload, 0)))))
def rx23 (x : (List UInt8) × Int) : SRes := ⟨.tuple ⟨[.string ⟨⟨x.1⟩⟩, .int .i64 x.2]⟩, [], []⟩
def r23 (g : ipfour_Head → (List UInt8) → Option ((List UInt8) × Int)) : Dec := dV uvipfour_Head fun (y0 : ipfour_Head) => dV asS fun (y1 : List UInt8) => dEnd (ofG (g y0 y1) rx23)
theorem r23_c {g : ipfour_Head → (List UInt8) → Option ((List UInt8) × Int)} {y0 : ipfour_Head} {y1 : List UInt8} {x : (List UInt8) × Int} (hx : g y0 y1 = some x) : r23 g [.agg ⟨[.int .i64 y0.Class, .int .i64 y0.Mark, .bool y0.Whole, .int .i64 y0.TTL, .int .i64 y0.Proto, .bool y0.Src.V6, .int .u64 y0.Src.Hi, .int .u64 y0.Src.Lo, .bool y0.Dst.V6, .int .u64 y0.Dst.Hi, .int .u64 y0.Dst.Lo, .string ⟨⟨y0.Options⟩⟩]⟩, .string ⟨⟨y1⟩⟩] [] = some (rx23 x) := (dV_eq (uvipfour_Head_c _)).trans ((dV_eq (asS_c)).trans (ofG_eq hx))
def s23 (g : ipfour_Head → (List UInt8) → Option ((List UInt8) × Int)) : Summ := ⟨[.v, .v], r23 g⟩
theorem r23_eq {g : ipfour_Head → (List UInt8) → Option ((List UInt8) × Int)} {y0 : ipfour_Head} {y1 : List UInt8} {x : (List UInt8) × Int} (hx : g y0 y1 = some x) : (s23 g).run [.agg ⟨[.int .i64 y0.Class, .int .i64 y0.Mark, .bool y0.Whole, .int .i64 y0.TTL, .int .i64 y0.Proto, .bool y0.Src.V6, .int .u64 y0.Src.Hi, .int .u64 y0.Src.Lo, .bool y0.Dst.V6, .int .u64 y0.Dst.Hi, .int .u64 y0.Dst.Lo, .string ⟨⟨y0.Options⟩⟩]⟩, .string ⟨⟨y1⟩⟩] [] = some (rx23 x) := r23_c hx
abbrev sums23 (R03_Of : (List UInt8) → Option Int) (R03_Set : (List UInt8) → Int → Int → Int → Option (List UInt8)) (R04_Put : api_Addr → Option (List UInt8)) (R05_Right : ipfour_Head → Option Bool) (R05_num : Int → Int → Option (List UInt8)) : List (Nat × Summ) := [(68, s68 R03_Of), (69, s69 R03_Set), (81, s81 R04_Put), (79, s79 R05_Right), (80, s80 R05_num)]
theorem leads23 (R03_Of : (List UInt8) → Option Int) (R03_Set : (List UInt8) → Int → Int → Int → Option (List UInt8)) (R04_Put : api_Addr → Option (List UInt8)) (R05_Right : ipfour_Head → Option Bool) (R05_num : Int → Int → Option (List UInt8)) (hS : SumsOK Try.prog (aget (sums23 R03_Of R03_Set R04_Put R05_Right R05_num))) (ha0 : ipfour_Head) (payload : List UInt8) (res : (List UInt8) × Int) (h : R05_PutF R03_Of R03_Set R04_Put R05_Right R05_num ha0 payload = some res) :
    Leads Try.prog 23 0 ⟨⟨23, 74, [(0, .agg ⟨[.int .i64 ha0.Class, .int .i64 ha0.Mark, .bool ha0.Whole, .int .i64 ha0.TTL, .int .i64 ha0.Proto, .bool ha0.Src.V6, .int .u64 ha0.Src.Hi, .int .u64 ha0.Src.Lo, .bool ha0.Dst.V6, .int .u64 ha0.Dst.Hi, .int .u64 ha0.Dst.Lo, .string ⟨⟨ha0.Options⟩⟩]⟩), (1, .string ⟨⟨payload⟩⟩)], [.code k23_26], [], false, none⟩, [], [], 0⟩ (fun v H _ => Res 0 (rx23 res) v H) := by
  unfold R05_PutF at h
  refine ev_ok tab_ok hS true 3000 ?_
  conv => whnf
  obtain ⟨xr, hy, h2⟩ := obind.elim h; clear h; have h := h2; clear h2
  refine sumK.introF [] (sumRun_of (aqs := [.agg ⟨[.int .i64 ha0.Class, .int .i64 ha0.Mark, .bool ha0.Whole, .int .i64 ha0.TTL, .int .i64 ha0.Proto, .bool ha0.Src.V6, .int .u64 ha0.Src.Hi, .int .u64 ha0.Src.Lo, .bool ha0.Dst.V6, .int .u64 ha0.Dst.Hi, .int .u64 ha0.Dst.Lo, .string ⟨⟨ha0.Options⟩⟩]⟩]) (ws := []) (n := 0) (m := 0) (t' := 1) (ra_cons rfl rfl ra_nil) rfl (by rfl) (r79_eq hy) rfl rfl rfl rfl wb_nil an_nil rfl) ?_
  conv => whnf
  refine br.h h ?_ ?_ ?_
  · rfl
  · clear h; intro hb h; conv => whnf
    all_goals (cases h)
    all_goals exact Res.of [] rfl nw_0 (by decide) js_0 wr_0
  clear h; intro hb h; conv => whnf
  let t : Int := wI .i64 (20 + (ha0.Options.length : Int))
  let t1 : Bool := decide ((payload.length : Int) > (wI .i64 (65535 - t)))
  refine br.h h ?_ ?_ ?_
  · rfl
  · clear h; intro hb h; conv => whnf
    all_goals (cases h)
    all_goals exact Res.of [] rfl nw_0 (by decide) js_0 wr_0
  clear h; intro hb h; conv => whnf
  refine br.h h ?_ ?_ ?_
  · rfl
  · clear h; intro hb h; conv => whnf
    obtain ⟨n, hy, h2⟩ := obind.elim h; clear h; have h := h2; clear h2
    refine sumK.introF [] (sumRun_of (aqs := [.int .i64 (wI .i64 (64 + (wI .i64 (t.tdiv 4)))), .int .i64 1]) (ws := []) (n := 0) (m := 0) (t' := 4) (ra_cons rfl rfl (ra_cons rfl rfl ra_nil)) rfl (by rfl) (r80_eq hy) rfl rfl rfl rfl wb_nil an_nil rfl) ?_
    conv => whnf
    obtain ⟨n1, hy, h2⟩ := obind.elim h; clear h; have h := h2; clear h2
    refine sumK.introF [] (sumRun_of (aqs := [.int .i64 ha0.Class, .int .i64 1]) (ws := []) (n := 0) (m := 0) (t' := 7) (ra_cons rfl rfl (ra_cons rfl rfl ra_nil)) rfl (by rfl) (r80_eq hy) rfl rfl rfl rfl wb_nil an_nil rfl) ?_
    conv => whnf
    replace h := oreq.elim h; have hb := h.1; replace h := h.2
    first | (refine req.intro hb ?_; conv => whnf) | skip
    obtain ⟨n2, hy, h2⟩ := obind.elim h; clear h; have h := h2; clear h2
    refine sumK.introF [] (sumRun_of (aqs := [.int .i64 (wI .i64 (t + (payload.length : Int))), .int .i64 2]) (ws := []) (n := 0) (m := 0) (t' := 13) (ra_cons rfl rfl (ra_cons rfl rfl ra_nil)) rfl (by rfl) (r80_eq hy) rfl rfl rfl rfl wb_nil an_nil rfl) ?_
    conv => whnf
    replace h := oreq.elim h; have hb := h.1; replace h := h.2
    first | (refine req.intro hb ?_; conv => whnf) | skip
    obtain ⟨n3, hy, h2⟩ := obind.elim h; clear h; have h := h2; clear h2
    refine sumK.introF [] (sumRun_of (aqs := [.int .i64 ha0.Mark, .int .i64 2]) (ws := []) (n := 0) (m := 0) (t' := 17) (ra_cons rfl rfl (ra_cons rfl rfl ra_nil)) rfl (by rfl) (r80_eq hy) rfl rfl rfl rfl wb_nil an_nil rfl) ?_
    conv => whnf
    replace h := oreq.elim h; have hb := h.1; replace h := h.2
    first | (refine req.intro hb ?_; conv => whnf) | skip
    obtain ⟨n4, hy, h2⟩ := obind.elim h; clear h; have h := h2; clear h2
    refine sumK.introF [] (sumRun_of (aqs := [.int .i64 64, .int .i64 1]) (ws := []) (n := 0) (m := 0) (t' := 20) (ra_cons rfl rfl (ra_cons rfl rfl ra_nil)) rfl (by rfl) (r80_eq hy) rfl rfl rfl rfl wb_nil an_nil rfl) ?_
    conv => whnf
    replace h := oreq.elim h; have hb := h.1; replace h := h.2
    first | (refine req.intro hb ?_; conv => whnf) | skip
    obtain ⟨n5, hy, h2⟩ := obind.elim h; clear h; have h := h2; clear h2
    refine sumK.introF [] (sumRun_of (aqs := [.int .i64 0, .int .i64 1]) (ws := []) (n := 0) (m := 0) (t' := 22) (ra_cons rfl rfl (ra_cons rfl rfl ra_nil)) rfl (by rfl) (r80_eq hy) rfl rfl rfl rfl wb_nil an_nil rfl) ?_
    conv => whnf
    replace h := oreq.elim h; have hb := h.1; replace h := h.2
    first | (refine req.intro hb ?_; conv => whnf) | skip
    obtain ⟨n6, hy, h2⟩ := obind.elim h; clear h; have h := h2; clear h2
    refine sumK.introF [] (sumRun_of (aqs := [.int .i64 ha0.TTL, .int .i64 1]) (ws := []) (n := 0) (m := 0) (t' := 26) (ra_cons rfl rfl (ra_cons rfl rfl ra_nil)) rfl (by rfl) (r80_eq hy) rfl rfl rfl rfl wb_nil an_nil rfl) ?_
    conv => whnf
    replace h := oreq.elim h; have hb := h.1; replace h := h.2
    first | (refine req.intro hb ?_; conv => whnf) | skip
    let t2 : List UInt8 := (((((n ++ n1) ++ n2) ++ n3) ++ n4) ++ n5) ++ n6
    obtain ⟨n7, hy, h2⟩ := obind.elim h; clear h; have h := h2; clear h2
    refine sumK.introF [] (sumRun_of (aqs := [.int .i64 ha0.Proto, .int .i64 1]) (ws := []) (n := 0) (m := 0) (t' := 30) (ra_cons rfl rfl (ra_cons rfl rfl ra_nil)) rfl (by rfl) (r80_eq hy) rfl rfl rfl rfl wb_nil an_nil rfl) ?_
    conv => whnf
    replace h := oreq.elim h; have hb := h.1; replace h := h.2
    first | (refine req.intro hb ?_; conv => whnf) | skip
    obtain ⟨n8, hy, h2⟩ := obind.elim h; clear h; have h := h2; clear h2
    refine sumK.introF [] (sumRun_of (aqs := [.int .i64 0, .int .i64 2]) (ws := []) (n := 0) (m := 0) (t' := 32) (ra_cons rfl rfl (ra_cons rfl rfl ra_nil)) rfl (by rfl) (r80_eq hy) rfl rfl rfl rfl wb_nil an_nil rfl) ?_
    conv => whnf
    replace h := oreq.elim h; have hb := h.1; replace h := h.2
    first | (refine req.intro hb ?_; conv => whnf) | skip
    obtain ⟨p, hy, h2⟩ := obind.elim h; clear h; have h := h2; clear h2
    refine sumK.introF [] (sumRun_of (aqs := [.agg ⟨[.bool ha0.Src.V6, .int .u64 ha0.Src.Hi, .int .u64 ha0.Src.Lo]⟩]) (ws := []) (n := 0) (m := 0) (t' := 36) (ra_cons rfl rfl ra_nil) rfl (by rfl) (r81_eq hy) rfl rfl rfl rfl wb_nil an_nil rfl) ?_
    conv => whnf
    replace h := oreq.elim h; have hb := h.1; replace h := h.2
    first | (refine req.intro hb ?_; conv => whnf) | skip
    obtain ⟨p1, hy, h2⟩ := obind.elim h; clear h; have h := h2; clear h2
    refine sumK.introF [] (sumRun_of (aqs := [.agg ⟨[.bool ha0.Dst.V6, .int .u64 ha0.Dst.Hi, .int .u64 ha0.Dst.Lo]⟩]) (ws := []) (n := 0) (m := 0) (t' := 40) (ra_cons rfl rfl ra_nil) rfl (by rfl) (r81_eq hy) rfl rfl rfl rfl wb_nil an_nil rfl) ?_
    conv => whnf
    replace h := oreq.elim h; have hb := h.1; replace h := h.2
    first | (refine req.intro hb ?_; conv => whnf) | skip
    replace h := oreq.elim h; have hb := h.1; replace h := h.2
    first | (refine req.intro hb ?_; conv => whnf) | skip
    let t3 : List UInt8 := ((((t2 ++ n7) ++ n8) ++ p) ++ p1) ++ ha0.Options
    obtain ⟨xo, hy, h2⟩ := obind.elim h; clear h; have h := h2; clear h2
    refine sumK.introF [] (sumRun_of (aqs := [.string ⟨⟨t3⟩⟩]) (ws := []) (n := 0) (m := 0) (t' := 44) (ra_cons rfl rfl ra_nil) rfl (by rfl) (r68_eq hy) rfl rfl rfl rfl wb_nil an_nil rfl) ?_
    conv => whnf
    obtain ⟨s, hy, h2⟩ := obind.elim h; clear h; have h := h2; clear h2
    refine sumK.introF [] (sumRun_of (aqs := [.string ⟨⟨t3⟩⟩, .int .i64 10, .int .i64 2, .int .u64 (wI .u64 xo)]) (ws := []) (n := 0) (m := 0) (t' := 44) (ra_cons rfl rfl (ra_cons rfl rfl (ra_cons rfl rfl (ra_cons rfl rfl ra_nil)))) rfl (by rfl) (r69_eq hy) rfl rfl rfl rfl wb_nil an_nil rfl) ?_
    conv => whnf
    replace h := oreq.elim h; have hb := h.1; replace h := h.2
    first | (refine req.intro hb ?_; conv => whnf) | skip
    all_goals (cases h)
    all_goals exact Res.of [] rfl nw_0 (by decide) js_0 wr_0
  clear h; intro hb h; conv => whnf
  obtain ⟨n9, hy, h2⟩ := obind.elim h; clear h; have h := h2; clear h2
  refine sumK.introF [] (sumRun_of (aqs := [.int .i64 (wI .i64 (64 + (wI .i64 (t.tdiv 4)))), .int .i64 1]) (ws := []) (n := 0) (m := 0) (t' := 4) (ra_cons rfl rfl (ra_cons rfl rfl ra_nil)) rfl (by rfl) (r80_eq hy) rfl rfl rfl rfl wb_nil an_nil rfl) ?_
  conv => whnf
  obtain ⟨n10, hy, h2⟩ := obind.elim h; clear h; have h := h2; clear h2
  refine sumK.introF [] (sumRun_of (aqs := [.int .i64 ha0.Class, .int .i64 1]) (ws := []) (n := 0) (m := 0) (t' := 7) (ra_cons rfl rfl (ra_cons rfl rfl ra_nil)) rfl (by rfl) (r80_eq hy) rfl rfl rfl rfl wb_nil an_nil rfl) ?_
  conv => whnf
  replace h := oreq.elim h; have hb := h.1; replace h := h.2
  first | (refine req.intro hb ?_; conv => whnf) | skip
  obtain ⟨n11, hy, h2⟩ := obind.elim h; clear h; have h := h2; clear h2
  refine sumK.introF [] (sumRun_of (aqs := [.int .i64 (wI .i64 (t + (payload.length : Int))), .int .i64 2]) (ws := []) (n := 0) (m := 0) (t' := 13) (ra_cons rfl rfl (ra_cons rfl rfl ra_nil)) rfl (by rfl) (r80_eq hy) rfl rfl rfl rfl wb_nil an_nil rfl) ?_
  conv => whnf
  replace h := oreq.elim h; have hb := h.1; replace h := h.2
  first | (refine req.intro hb ?_; conv => whnf) | skip
  obtain ⟨n12, hy, h2⟩ := obind.elim h; clear h; have h := h2; clear h2
  refine sumK.introF [] (sumRun_of (aqs := [.int .i64 ha0.Mark, .int .i64 2]) (ws := []) (n := 0) (m := 0) (t' := 17) (ra_cons rfl rfl (ra_cons rfl rfl ra_nil)) rfl (by rfl) (r80_eq hy) rfl rfl rfl rfl wb_nil an_nil rfl) ?_
  conv => whnf
  replace h := oreq.elim h; have hb := h.1; replace h := h.2
  first | (refine req.intro hb ?_; conv => whnf) | skip
  obtain ⟨n13, hy, h2⟩ := obind.elim h; clear h; have h := h2; clear h2
  refine sumK.introF [] (sumRun_of (aqs := [.int .i64 0, .int .i64 1]) (ws := []) (n := 0) (m := 0) (t' := 20) (ra_cons rfl rfl (ra_cons rfl rfl ra_nil)) rfl (by rfl) (r80_eq hy) rfl rfl rfl rfl wb_nil an_nil rfl) ?_
  conv => whnf
  replace h := oreq.elim h; have hb := h.1; replace h := h.2
  first | (refine req.intro hb ?_; conv => whnf) | skip
  obtain ⟨n14, hy, h2⟩ := obind.elim h; clear h; have h := h2; clear h2
  refine sumK.introF [] (sumRun_of (aqs := [.int .i64 0, .int .i64 1]) (ws := []) (n := 0) (m := 0) (t' := 22) (ra_cons rfl rfl (ra_cons rfl rfl ra_nil)) rfl (by rfl) (r80_eq hy) rfl rfl rfl rfl wb_nil an_nil rfl) ?_
  conv => whnf
  replace h := oreq.elim h; have hb := h.1; replace h := h.2
  first | (refine req.intro hb ?_; conv => whnf) | skip
  let t4 : List UInt8 := ((((n9 ++ n10) ++ n11) ++ n12) ++ n13) ++ n14
  obtain ⟨n15, hy, h2⟩ := obind.elim h; clear h; have h := h2; clear h2
  refine sumK.introF [] (sumRun_of (aqs := [.int .i64 ha0.TTL, .int .i64 1]) (ws := []) (n := 0) (m := 0) (t' := 26) (ra_cons rfl rfl (ra_cons rfl rfl ra_nil)) rfl (by rfl) (r80_eq hy) rfl rfl rfl rfl wb_nil an_nil rfl) ?_
  conv => whnf
  replace h := oreq.elim h; have hb := h.1; replace h := h.2
  first | (refine req.intro hb ?_; conv => whnf) | skip
  obtain ⟨n16, hy, h2⟩ := obind.elim h; clear h; have h := h2; clear h2
  refine sumK.introF [] (sumRun_of (aqs := [.int .i64 ha0.Proto, .int .i64 1]) (ws := []) (n := 0) (m := 0) (t' := 30) (ra_cons rfl rfl (ra_cons rfl rfl ra_nil)) rfl (by rfl) (r80_eq hy) rfl rfl rfl rfl wb_nil an_nil rfl) ?_
  conv => whnf
  replace h := oreq.elim h; have hb := h.1; replace h := h.2
  first | (refine req.intro hb ?_; conv => whnf) | skip
  obtain ⟨n17, hy, h2⟩ := obind.elim h; clear h; have h := h2; clear h2
  refine sumK.introF [] (sumRun_of (aqs := [.int .i64 0, .int .i64 2]) (ws := []) (n := 0) (m := 0) (t' := 32) (ra_cons rfl rfl (ra_cons rfl rfl ra_nil)) rfl (by rfl) (r80_eq hy) rfl rfl rfl rfl wb_nil an_nil rfl) ?_
  conv => whnf
  replace h := oreq.elim h; have hb := h.1; replace h := h.2
  first | (refine req.intro hb ?_; conv => whnf) | skip
  obtain ⟨p2, hy, h2⟩ := obind.elim h; clear h; have h := h2; clear h2
  refine sumK.introF [] (sumRun_of (aqs := [.agg ⟨[.bool ha0.Src.V6, .int .u64 ha0.Src.Hi, .int .u64 ha0.Src.Lo]⟩]) (ws := []) (n := 0) (m := 0) (t' := 36) (ra_cons rfl rfl ra_nil) rfl (by rfl) (r81_eq hy) rfl rfl rfl rfl wb_nil an_nil rfl) ?_
  conv => whnf
  replace h := oreq.elim h; have hb := h.1; replace h := h.2
  first | (refine req.intro hb ?_; conv => whnf) | skip
  obtain ⟨p3, hy, h2⟩ := obind.elim h; clear h; have h := h2; clear h2
  refine sumK.introF [] (sumRun_of (aqs := [.agg ⟨[.bool ha0.Dst.V6, .int .u64 ha0.Dst.Hi, .int .u64 ha0.Dst.Lo]⟩]) (ws := []) (n := 0) (m := 0) (t' := 40) (ra_cons rfl rfl ra_nil) rfl (by rfl) (r81_eq hy) rfl rfl rfl rfl wb_nil an_nil rfl) ?_
  conv => whnf
  replace h := oreq.elim h; have hb := h.1; replace h := h.2
  first | (refine req.intro hb ?_; conv => whnf) | skip
  let t5 : List UInt8 := ((((t4 ++ n15) ++ n16) ++ n17) ++ p2) ++ p3
  replace h := oreq.elim h; have hb := h.1; replace h := h.2
  first | (refine req.intro hb ?_; conv => whnf) | skip
  obtain ⟨xo1, hy, h2⟩ := obind.elim h; clear h; have h := h2; clear h2
  refine sumK.introF [] (sumRun_of (aqs := [.string ⟨⟨t5 ++ ha0.Options⟩⟩]) (ws := []) (n := 0) (m := 0) (t' := 44) (ra_cons rfl rfl ra_nil) rfl (by rfl) (r68_eq hy) rfl rfl rfl rfl wb_nil an_nil rfl) ?_
  conv => whnf
  obtain ⟨s1, hy, h2⟩ := obind.elim h; clear h; have h := h2; clear h2
  refine sumK.introF [] (sumRun_of (aqs := [.string ⟨⟨t5 ++ ha0.Options⟩⟩, .int .i64 10, .int .i64 2, .int .u64 (wI .u64 xo1)]) (ws := []) (n := 0) (m := 0) (t' := 44) (ra_cons rfl rfl (ra_cons rfl rfl (ra_cons rfl rfl (ra_cons rfl rfl ra_nil)))) rfl (by rfl) (r69_eq hy) rfl rfl rfl rfl wb_nil an_nil rfl) ?_
  conv => whnf
  replace h := oreq.elim h; have hb := h.1; replace h := h.2
  first | (refine req.intro hb ?_; conv => whnf) | skip
  all_goals (cases h)
  all_goals exact Res.of [] rfl nw_0 (by decide) js_0 wr_0
theorem ok23 (R03_Of : (List UInt8) → Option Int) (R03_Set : (List UInt8) → Int → Int → Int → Option (List UInt8)) (R04_Put : api_Addr → Option (List UInt8)) (R05_Right : ipfour_Head → Option Bool) (R05_num : Int → Int → Option (List UInt8)) (hS : SumsOK Try.prog (aget (sums23 R03_Of R03_Set R04_Put R05_Right R05_num))) : SumOK Try.prog 23 (s23 (R05_PutF R03_Of R03_Set R04_Put R05_Right R05_num)) := by
  refine SumOK.of_leads tab_ok (fun ar os r ha hr => ?_) ⟨Try.f23, rfl, by decide, rfl⟩
  replace hr : r23 (R05_PutF R03_Of R03_Set R04_Put R05_Right R05_num) ar (conts os) = some r := hr
  unfold r23 at hr
  generalize hc : conts os = C at hr
  have hq := dV.elim hr; clear hr; obtain ⟨v0, l1, y0, rfl, e0, hr⟩ := hq; obtain rfl := uvipfour_Head_eq _ _ e0
  have hq := dV.elim hr; clear hr; obtain ⟨v1, l2, y1, rfl, e1, hr⟩ := hq; obtain rfl := asS_eq _ _ e1
  have hq := dEnd.elim hr; clear hr; obtain ⟨rfl, rfl, hr⟩ := hq
  have hq := ofG.elim hr; clear hr; obtain ⟨x, h, rfl⟩ := hq
  obtain rfl := kinds_nil hc
  exact ⟨_, rfl, leads23 R03_Of R03_Set R04_Put R05_Right R05_num hS _ _ x h⟩
def R05_Put : ipfour_Head → (List UInt8) → Option ((List UInt8) × Int) := R05_PutF R03_Of R03_Set R04_Put R05_Right R05_num
theorem lift23 : SumOK Try.prog 23 (s23 R05_Put) := ok23 R03_Of R03_Set R04_Put R05_Right R05_num (SumsOK.of_tab ⟨lift68, lift69, lift81, lift79, lift80, trivial⟩)
end Go.Vm.Code

namespace Go.Vm.Code
open Go Go.Vm Go.Proofs
set_option maxRecDepth 100000
set_option maxHeartbeats 4000000
set_option linter.unusedVariables false

/-! cloakroom/cloakroomref04.Get -/
def R04_GetF (R02_Get : (List UInt8) → Int → Int → Option (Int × Bool)) (s : List UInt8) : Option (api_Addr × Bool) :=
  cond ((s.length : Int) == 4)
    (
    (R02_Get s 0 4).bind fun xg =>
    some ((api_Addr.mk false 0 xg.1, true)))
    (
    cond ((s.length : Int) == 16)
      (
      (R02_Get s 0 8).bind fun xg1 =>
      (R02_Get s 8 8).bind fun xg2 =>
      some ((api_Addr.mk true xg1.1 xg2.1, true)))
      (
      some ((api_Addr.mk false 0 0, false))))
def rx84 (x : api_Addr × Bool) : SRes := ⟨.tuple ⟨[.agg ⟨[.bool x.1.V6, .int .u64 x.1.Hi, .int .u64 x.1.Lo]⟩, .bool x.2]⟩, [], []⟩
def r84 (g : (List UInt8) → Option (api_Addr × Bool)) : Dec := dV asS fun (y0 : List UInt8) => dEnd (ofG (g y0) rx84)
theorem r84_c {g : (List UInt8) → Option (api_Addr × Bool)} {y0 : List UInt8} {x : api_Addr × Bool} (hx : g y0 = some x) : r84 g [.string ⟨⟨y0⟩⟩] [] = some (rx84 x) := (dV_eq (asS_c)).trans (ofG_eq hx)
def s84 (g : (List UInt8) → Option (api_Addr × Bool)) : Summ := ⟨[.v], r84 g⟩
theorem r84_eq {g : (List UInt8) → Option (api_Addr × Bool)} {y0 : List UInt8} {x : api_Addr × Bool} (hx : g y0 = some x) : (s84 g).run [.string ⟨⟨y0⟩⟩] [] = some (rx84 x) := r84_c hx
abbrev sums84 (R02_Get : (List UInt8) → Int → Int → Option (Int × Bool)) : List (Nat × Summ) := [(114, s114 R02_Get)]
theorem leads84 (R02_Get : (List UInt8) → Int → Int → Option (Int × Bool)) (hS : SumsOK Try.prog (aget (sums84 R02_Get))) (s : List UInt8) (res : api_Addr × Bool) (h : R04_GetF R02_Get s = some res) :
    Leads Try.prog 84 0 ⟨⟨84, 37, [(0, .string ⟨⟨s⟩⟩)], [.code k84_21], [], false, none⟩, [], [], 0⟩ (fun v H _ => Res 0 (rx84 res) v H) := by
  unfold R04_GetF at h
  refine ev_ok tab_ok hS true 3000 ?_
  conv => whnf
  refine br.h h ?_ ?_ ?_
  · rfl
  · clear h; intro hb h; conv => whnf
    obtain ⟨xg, hy, h2⟩ := obind.elim h; clear h; have h := h2; clear h2
    refine sumK.introF [] (sumRun_of (aqs := [.string ⟨⟨s⟩⟩, .int .i64 0, .int .i64 4]) (ws := []) (n := 0) (m := 0) (t' := 1) (ra_cons rfl rfl (ra_cons rfl rfl (ra_cons rfl rfl ra_nil))) rfl (by rfl) (r114_eq hy) rfl rfl rfl rfl wb_nil an_nil rfl) ?_
    conv => whnf
    all_goals (cases h)
    all_goals exact Res.of [] rfl nw_0 (by decide) js_0 wr_0
  clear h; intro hb h; conv => whnf
  refine br.h2 h ?_ ?_ ?_
  · rfl
  · clear h; intro hb h; conv => whnf
    all_goals (cases h)
    all_goals exact Res.of [] rfl nw_0 (by decide) js_0 wr_0
  clear h; intro hb h; conv => whnf
  obtain ⟨xg1, hy, h2⟩ := obind.elim h; clear h; have h := h2; clear h2
  refine sumK.introF [] (sumRun_of (aqs := [.string ⟨⟨s⟩⟩, .int .i64 0, .int .i64 8]) (ws := []) (n := 0) (m := 0) (t' := 1) (ra_cons rfl rfl (ra_cons rfl rfl (ra_cons rfl rfl ra_nil))) rfl (by rfl) (r114_eq hy) rfl rfl rfl rfl wb_nil an_nil rfl) ?_
  conv => whnf
  obtain ⟨xg2, hy, h2⟩ := obind.elim h; clear h; have h := h2; clear h2
  refine sumK.introF [] (sumRun_of (aqs := [.string ⟨⟨s⟩⟩, .int .i64 8, .int .i64 8]) (ws := []) (n := 0) (m := 0) (t' := 1) (ra_cons rfl rfl (ra_cons rfl rfl (ra_cons rfl rfl ra_nil))) rfl (by rfl) (r114_eq hy) rfl rfl rfl rfl wb_nil an_nil rfl) ?_
  conv => whnf
  all_goals (cases h)
  all_goals exact Res.of [] rfl nw_0 (by decide) js_0 wr_0
theorem ok84 (R02_Get : (List UInt8) → Int → Int → Option (Int × Bool)) (hS : SumsOK Try.prog (aget (sums84 R02_Get))) : SumOK Try.prog 84 (s84 (R04_GetF R02_Get)) := by
  refine SumOK.of_leads tab_ok (fun ar os r ha hr => ?_) ⟨Try.f84, rfl, by decide, rfl⟩
  replace hr : r84 (R04_GetF R02_Get) ar (conts os) = some r := hr
  unfold r84 at hr
  generalize hc : conts os = C at hr
  have hq := dV.elim hr; clear hr; obtain ⟨v0, l1, y0, rfl, e0, hr⟩ := hq; obtain rfl := asS_eq _ _ e0
  have hq := dEnd.elim hr; clear hr; obtain ⟨rfl, rfl, hr⟩ := hq
  have hq := ofG.elim hr; clear hr; obtain ⟨x, h, rfl⟩ := hq
  obtain rfl := kinds_nil hc
  exact ⟨_, rfl, leads84 R02_Get hS _ x h⟩
def R04_Get : (List UInt8) → Option (api_Addr × Bool) := R04_GetF R02_Get
theorem lift84 : SumOK Try.prog 84 (s84 R04_Get) := ok84 R02_Get (SumsOK.of_tab ⟨lift114, trivial⟩)
end Go.Vm.Code

namespace Go.Vm.Code
open Go Go.Vm Go.Proofs
set_option maxRecDepth 100000
set_option maxHeartbeats 4000000
set_option linter.unusedVariables false

/-! cloakroom/cloakroomref05.Get -/
def R05_GetF (R02_Must : (List UInt8) → Int → Int → Option Int) (R03_Sum : (List UInt8) → Option Int) (R04_Get : (List UInt8) → Option (api_Addr × Bool)) (s : List UInt8) : Option (ipfour_Head × (List UInt8) × Int) :=
  cond (decide ((s.length : Int) < 20))
    (
    some ((ipfour_Head.mk 0 0 false 0 0 (api_Addr.mk false 0 0) (api_Addr.mk false 0 0) [], [], 2)))
    (
    (s[0]?).bind fun (b : UInt8) =>
    let t := wI .i64 (4 * (wI .i64 ((b.toNat : Int).tmod 16)))
    (R02_Must s 2 2).bind fun m =>
    (s[0]?).bind fun (b1 : UInt8) =>
    cond ((wI .u8 ((b1.toNat : Int).tdiv 16)) != 4)
      (
      some ((ipfour_Head.mk 0 0 false 0 0 (api_Addr.mk false 0 0) (api_Addr.mk false 0 0) [], [], 3)))
      (
      cond (decide (t < 20))
        (
        some ((ipfour_Head.mk 0 0 false 0 0 (api_Addr.mk false 0 0) (api_Addr.mk false 0 0) [], [], 3)))
        (
        cond (decide (m < t))
          (
          some ((ipfour_Head.mk 0 0 false 0 0 (api_Addr.mk false 0 0) (api_Addr.mk false 0 0) [], [], 3)))
          (
          cond (decide ((s.length : Int) < m))
            (
            some ((ipfour_Head.mk 0 0 false 0 0 (api_Addr.mk false 0 0) (api_Addr.mk false 0 0) [], [], 2)))
            (
            oreq (decide ((0 : Int) ≤ t ∧ t ≤ (s.length : Int))) <|
            (R03_Sum (s.take t.toNat)).bind fun s1 =>
            cond (s1 != 65535)
              (
              some ((ipfour_Head.mk 0 0 false 0 0 (api_Addr.mk false 0 0) (api_Addr.mk false 0 0) [], [], 4)))
              (
              (s[6]?).bind fun (b2 : UInt8) =>
              cond ((b2.toNat : Int) != 0)
                (
                (s[6]?).bind fun (b3 : UInt8) =>
                cond ((b3.toNat : Int) != 64)
                  (
                  some ((ipfour_Head.mk 0 0 false 0 0 (api_Addr.mk false 0 0) (api_Addr.mk false 0 0) [], [], 7)))
                  (
                  (s[7]?).bind fun (b4 : UInt8) =>
                  cond ((b4.toNat : Int) != 0)
                    (
                    some ((ipfour_Head.mk 0 0 false 0 0 (api_Addr.mk false 0 0) (api_Addr.mk false 0 0) [], [], 7)))
                    (
                    oreq (decide ((0 : Int) ≤ (16 : Int) ∧ (16 : Int) ≤ (s.length : Int) ∧ (0 : Int) ≤ (12 : Int) ∧ (12 : Int) ≤ (16 : Int))) <|
                    (R04_Get ((s.drop 12).take 4)).bind fun xg =>
                    oreq (decide ((0 : Int) ≤ (20 : Int) ∧ (20 : Int) ≤ (s.length : Int) ∧ (0 : Int) ≤ (16 : Int) ∧ (16 : Int) ≤ (20 : Int))) <|
                    (R04_Get ((s.drop 16).take 4)).bind fun xg1 =>
                    (s[1]?).bind fun (b5 : UInt8) =>
                    (R02_Must s 4 2).bind fun m1 =>
                    (s[6]?).bind fun (b6 : UInt8) =>
                    (s[8]?).bind fun (b7 : UInt8) =>
                    (s[9]?).bind fun (b8 : UInt8) =>
                    oreq (decide ((0 : Int) ≤ t ∧ t ≤ (s.length : Int) ∧ (0 : Int) ≤ (20 : Int) ∧ (20 : Int) ≤ (t.toNat : Int))) <|
                    oreq (decide ((0 : Int) ≤ m ∧ m ≤ (s.length : Int) ∧ (0 : Int) ≤ t ∧ t ≤ (m.toNat : Int))) <|
                    let t1 := (s.drop t.toNat).take (m.toNat - t.toNat)
                    some ((ipfour_Head.mk (wI .i64 (b5.toNat : Int)) m1 ((b6.toNat : Int) == 64) (wI .i64 (b7.toNat : Int)) (wI .i64 (b8.toNat : Int)) xg.1 xg1.1 ((s.drop 20).take (t.toNat - 20)), t1, 0)))))
                (
                (s[7]?).bind fun (b9 : UInt8) =>
                cond ((b9.toNat : Int) != 0)
                  (
                  some ((ipfour_Head.mk 0 0 false 0 0 (api_Addr.mk false 0 0) (api_Addr.mk false 0 0) [], [], 7)))
                  (
                  oreq (decide ((0 : Int) ≤ (16 : Int) ∧ (16 : Int) ≤ (s.length : Int) ∧ (0 : Int) ≤ (12 : Int) ∧ (12 : Int) ≤ (16 : Int))) <|
                  (R04_Get ((s.drop 12).take 4)).bind fun xg2 =>
                  oreq (decide ((0 : Int) ≤ (20 : Int) ∧ (20 : Int) ≤ (s.length : Int) ∧ (0 : Int) ≤ (16 : Int) ∧ (16 : Int) ≤ (20 : Int))) <|
                  (R04_Get ((s.drop 16).take 4)).bind fun xg3 =>
                  (s[1]?).bind fun (b10 : UInt8) =>
                  (R02_Must s 4 2).bind fun m2 =>
                  (s[6]?).bind fun (b11 : UInt8) =>
                  (s[8]?).bind fun (b12 : UInt8) =>
                  (s[9]?).bind fun (b13 : UInt8) =>
                  oreq (decide ((0 : Int) ≤ t ∧ t ≤ (s.length : Int) ∧ (0 : Int) ≤ (20 : Int) ∧ (20 : Int) ≤ (t.toNat : Int))) <|
                  oreq (decide ((0 : Int) ≤ m ∧ m ≤ (s.length : Int) ∧ (0 : Int) ≤ t ∧ t ≤ (m.toNat : Int))) <|
                  let t2 := (s.drop t.toNat).take (m.toNat - t.toNat)
                  some ((ipfour_Head.mk (wI .i64 (b10.toNat : Int)) m2 ((b11.toNat : Int) == 64) (wI .i64 (b12.toNat : Int)) (wI .i64 (b13.toNat : Int)) xg2.1 xg3.1 ((s.drop 20).take (t.toNat - 20)), t2, 0))))))))))
def rx25 (x : ipfour_Head × (List UInt8) × Int) : SRes := ⟨.tuple ⟨[.agg ⟨[.int .i64 x.1.Class, .int .i64 x.1.Mark, .bool x.1.Whole, .int .i64 x.1.TTL, .int .i64 x.1.Proto, .bool x.1.Src.V6, .int .u64 x.1.Src.Hi, .int .u64 x.1.Src.Lo, .bool x.1.Dst.V6, .int .u64 x.1.Dst.Hi, .int .u64 x.1.Dst.Lo, .string ⟨⟨x.1.Options⟩⟩]⟩, .string ⟨⟨x.2.1⟩⟩, .int .i64 x.2.2]⟩, [], []⟩
def r25 (g : (List UInt8) → Option (ipfour_Head × (List UInt8) × Int)) : Dec := dV asS fun (y0 : List UInt8) => dEnd (ofG (g y0) rx25)
theorem r25_c {g : (List UInt8) → Option (ipfour_Head × (List UInt8) × Int)} {y0 : List UInt8} {x : ipfour_Head × (List UInt8) × Int} (hx : g y0 = some x) : r25 g [.string ⟨⟨y0⟩⟩] [] = some (rx25 x) := (dV_eq (asS_c)).trans (ofG_eq hx)
def s25 (g : (List UInt8) → Option (ipfour_Head × (List UInt8) × Int)) : Summ := ⟨[.v], r25 g⟩
theorem r25_eq {g : (List UInt8) → Option (ipfour_Head × (List UInt8) × Int)} {y0 : List UInt8} {x : ipfour_Head × (List UInt8) × Int} (hx : g y0 = some x) : (s25 g).run [.string ⟨⟨y0⟩⟩] [] = some (rx25 x) := r25_c hx
abbrev sums25 (R02_Must : (List UInt8) → Int → Int → Option Int) (R03_Sum : (List UInt8) → Option Int) (R04_Get : (List UInt8) → Option (api_Addr × Bool)) : List (Nat × Summ) := [(74, s74 R02_Must), (75, s75 R03_Sum), (84, s84 R04_Get)]
theorem leads25 (R02_Must : (List UInt8) → Int → Int → Option Int) (R03_Sum : (List UInt8) → Option Int) (R04_Get : (List UInt8) → Option (api_Addr × Bool)) (hS : SumsOK Try.prog (aget (sums25 R02_Must R03_Sum R04_Get))) (s : List UInt8) (res : ipfour_Head × (List UInt8) × Int) (h : R05_GetF R02_Must R03_Sum R04_Get s = some res) :
    Leads Try.prog 25 0 ⟨⟨25, 97, [(0, .string ⟨⟨s⟩⟩)], [.code k25_39], [], false, none⟩, [], [], 0⟩ (fun v H _ => Res 0 (rx25 res) v H) := by
  unfold R05_GetF at h
  refine ev_ok tab_ok hS true 3000 ?_
  conv => whnf
  refine br.h h ?_ ?_ ?_
  · rfl
  · clear h; intro hb h; conv => whnf
    all_goals (cases h)
    all_goals exact Res.of [] rfl nw_0 (by decide) js_0 wr_0
  clear h; intro hb h; conv => whnf
  obtain ⟨b, hy, h2⟩ := obind.elim h; clear h; have h := h2; clear h2
  refine rdS.intro hy ?_
  conv => whnf
  let t : Int := wI .i64 (4 * (wI .i64 ((b.toNat : Int).tmod 16)))
  obtain ⟨m, hy, h2⟩ := obind.elim h; clear h; have h := h2; clear h2
  refine sumK.introF [] (sumRun_of (aqs := [.string ⟨⟨s⟩⟩, .int .i64 2, .int .i64 2]) (ws := []) (n := 0) (m := 0) (t' := 7) (ra_cons rfl rfl (ra_cons rfl rfl (ra_cons rfl rfl ra_nil))) rfl (by rfl) (r74_eq hy) rfl rfl rfl rfl wb_nil an_nil rfl) ?_
  conv => whnf
  obtain ⟨b1, hy, h2⟩ := obind.elim h; clear h; have h := h2; clear h2
  refine rdS.intro hy ?_
  conv => whnf
  refine br.h h ?_ ?_ ?_
  · rfl
  · clear h; intro hb h; conv => whnf
    all_goals (cases h)
    all_goals exact Res.of [] rfl nw_0 (by decide) js_0 wr_0
  clear h; intro hb h; conv => whnf
  refine br.h h ?_ ?_ ?_
  · rfl
  · clear h; intro hb h; conv => whnf
    all_goals (cases h)
    all_goals exact Res.of [] rfl nw_0 (by decide) js_0 wr_0
  clear h; intro hb h; conv => whnf
  refine br.h h ?_ ?_ ?_
  · rfl
  · clear h; intro hb h; conv => whnf
    all_goals (cases h)
    all_goals exact Res.of [] rfl nw_0 (by decide) js_0 wr_0
  clear h; intro hb h; conv => whnf
  refine br.h h ?_ ?_ ?_
  · rfl
  · clear h; intro hb h; conv => whnf
    all_goals (cases h)
    all_goals exact Res.of [] rfl nw_0 (by decide) js_0 wr_0
  clear h; intro hb h; conv => whnf
  replace h := oreq.elim h; have hb := h.1; replace h := h.2
  first | (refine req.intro hb ?_; conv => whnf) | skip
  obtain ⟨s1, hy, h2⟩ := obind.elim h; clear h; have h := h2; clear h2
  refine sumK.introF [] (sumRun_of (aqs := [.string ⟨⟨s.take t.toNat⟩⟩]) (ws := []) (n := 0) (m := 0) (t' := 8) (ra_cons rfl rfl ra_nil) rfl (by rfl) (r75_eq hy) rfl rfl rfl rfl wb_nil an_nil rfl) ?_
  conv => whnf
  refine br.h h ?_ ?_ ?_
  · rfl
  · clear h; intro hb h; conv => whnf
    all_goals (cases h)
    all_goals exact Res.of [] rfl nw_0 (by decide) js_0 wr_0
  clear h; intro hb h; conv => whnf
  obtain ⟨b2, hy, h2⟩ := obind.elim h; clear h; have h := h2; clear h2
  refine rdS.intro hy ?_
  conv => whnf
  refine br.h2 h ?_ ?_ ?_
  · rfl
  · clear h; intro hb h; conv => whnf
    obtain ⟨b9, hy, h2⟩ := obind.elim h; clear h; have h := h2; clear h2
    refine rdS.intro hy ?_
    conv => whnf
    refine br.h h ?_ ?_ ?_
    · rfl
    · clear h; intro hb h; conv => whnf
      all_goals (cases h)
      all_goals exact Res.of [] rfl nw_0 (by decide) js_0 wr_0
    clear h; intro hb h; conv => whnf
    replace h := oreq.elim h; have hb := h.1; replace h := h.2
    first | (refine req.intro hb ?_; conv => whnf) | skip
    obtain ⟨xg2, hy, h2⟩ := obind.elim h; clear h; have h := h2; clear h2
    refine sumK.introF [] (sumRun_of (aqs := [.string ⟨⟨(s.drop 12).take 4⟩⟩]) (ws := []) (n := 0) (m := 0) (t' := 8) (ra_cons rfl rfl ra_nil) rfl (by rfl) (r84_eq hy) rfl rfl rfl rfl wb_nil an_nil rfl) ?_
    conv => whnf
    replace h := oreq.elim h; have hb := h.1; replace h := h.2
    first | (refine req.intro hb ?_; conv => whnf) | skip
    obtain ⟨xg3, hy, h2⟩ := obind.elim h; clear h; have h := h2; clear h2
    refine sumK.introF [] (sumRun_of (aqs := [.string ⟨⟨(s.drop 16).take 4⟩⟩]) (ws := []) (n := 0) (m := 0) (t' := 9) (ra_cons rfl rfl ra_nil) rfl (by rfl) (r84_eq hy) rfl rfl rfl rfl wb_nil an_nil rfl) ?_
    conv => whnf
    obtain ⟨b10, hy, h2⟩ := obind.elim h; clear h; have h := h2; clear h2
    refine rdS.intro hy ?_
    conv => whnf
    obtain ⟨m2, hy, h2⟩ := obind.elim h; clear h; have h := h2; clear h2
    refine sumK.introF [] (sumRun_of (aqs := [.string ⟨⟨s⟩⟩, .int .i64 4, .int .i64 2]) (ws := []) (n := 0) (m := 0) (t' := 14) (ra_cons rfl rfl (ra_cons rfl rfl (ra_cons rfl rfl ra_nil))) rfl (by rfl) (r74_eq hy) rfl rfl rfl rfl wb_nil an_nil rfl) ?_
    conv => whnf
    obtain ⟨b11, hy, h2⟩ := obind.elim h; clear h; have h := h2; clear h2
    refine rdS.intro hy ?_
    conv => whnf
    obtain ⟨b12, hy, h2⟩ := obind.elim h; clear h; have h := h2; clear h2
    refine rdS.intro hy ?_
    conv => whnf
    obtain ⟨b13, hy, h2⟩ := obind.elim h; clear h; have h := h2; clear h2
    refine rdS.intro hy ?_
    conv => whnf
    replace h := oreq.elim h; have hb := h.1; replace h := h.2
    first | (refine req.intro hb ?_; conv => whnf) | skip
    replace h := oreq.elim h; have hb := h.1; replace h := h.2
    first | (refine req.intro hb ?_; conv => whnf) | skip
    let t2 : List UInt8 := (s.drop t.toNat).take (m.toNat - t.toNat)
    all_goals (cases h)
    all_goals exact Res.of [] rfl nw_0 (by decide) js_0 wr_0
  clear h; intro hb h; conv => whnf
  obtain ⟨b3, hy, h2⟩ := obind.elim h; clear h; have h := h2; clear h2
  refine rdS.intro hy ?_
  conv => whnf
  refine br.h h ?_ ?_ ?_
  · rfl
  · clear h; intro hb h; conv => whnf
    all_goals (cases h)
    all_goals exact Res.of [] rfl nw_0 (by decide) js_0 wr_0
  clear h; intro hb h; conv => whnf
  obtain ⟨b4, hy, h2⟩ := obind.elim h; clear h; have h := h2; clear h2
  refine rdS.intro hy ?_
  conv => whnf
  refine br.h h ?_ ?_ ?_
  · rfl
  · clear h; intro hb h; conv => whnf
    all_goals (cases h)
    all_goals exact Res.of [] rfl nw_0 (by decide) js_0 wr_0
  clear h; intro hb h; conv => whnf
  replace h := oreq.elim h; have hb := h.1; replace h := h.2
  first | (refine req.intro hb ?_; conv => whnf) | skip
  obtain ⟨xg, hy, h2⟩ := obind.elim h; clear h; have h := h2; clear h2
  refine sumK.introF [] (sumRun_of (aqs := [.string ⟨⟨(s.drop 12).take 4⟩⟩]) (ws := []) (n := 0) (m := 0) (t' := 8) (ra_cons rfl rfl ra_nil) rfl (by rfl) (r84_eq hy) rfl rfl rfl rfl wb_nil an_nil rfl) ?_
  conv => whnf
  replace h := oreq.elim h; have hb := h.1; replace h := h.2
  first | (refine req.intro hb ?_; conv => whnf) | skip
  obtain ⟨xg1, hy, h2⟩ := obind.elim h; clear h; have h := h2; clear h2
  refine sumK.introF [] (sumRun_of (aqs := [.string ⟨⟨(s.drop 16).take 4⟩⟩]) (ws := []) (n := 0) (m := 0) (t' := 9) (ra_cons rfl rfl ra_nil) rfl (by rfl) (r84_eq hy) rfl rfl rfl rfl wb_nil an_nil rfl) ?_
  conv => whnf
  obtain ⟨b5, hy, h2⟩ := obind.elim h; clear h; have h := h2; clear h2
  refine rdS.intro hy ?_
  conv => whnf
  obtain ⟨m1, hy, h2⟩ := obind.elim h; clear h; have h := h2; clear h2
  refine sumK.introF [] (sumRun_of (aqs := [.string ⟨⟨s⟩⟩, .int .i64 4, .int .i64 2]) (ws := []) (n := 0) (m := 0) (t' := 14) (ra_cons rfl rfl (ra_cons rfl rfl (ra_cons rfl rfl ra_nil))) rfl (by rfl) (r74_eq hy) rfl rfl rfl rfl wb_nil an_nil rfl) ?_
  conv => whnf
  obtain ⟨b6, hy, h2⟩ := obind.elim h; clear h; have h := h2; clear h2
  refine rdS.intro hy ?_
  conv => whnf
  obtain ⟨b7, hy, h2⟩ := obind.elim h; clear h; have h := h2; clear h2
  refine rdS.intro hy ?_
  conv => whnf
  obtain ⟨b8, hy, h2⟩ := obind.elim h; clear h; have h := h2; clear h2
  refine rdS.intro hy ?_
  conv => whnf
  replace h := oreq.elim h; have hb := h.1; replace h := h.2
  first | (refine req.intro hb ?_; conv => whnf) | skip
  replace h := oreq.elim h; have hb := h.1; replace h := h.2
  first | (refine req.intro hb ?_; conv => whnf) | skip
  let t1 : List UInt8 := (s.drop t.toNat).take (m.toNat - t.toNat)
  all_goals (cases h)
  all_goals exact Res.of [] rfl nw_0 (by decide) js_0 wr_0
theorem ok25 (R02_Must : (List UInt8) → Int → Int → Option Int) (R03_Sum : (List UInt8) → Option Int) (R04_Get : (List UInt8) → Option (api_Addr × Bool)) (hS : SumsOK Try.prog (aget (sums25 R02_Must R03_Sum R04_Get))) : SumOK Try.prog 25 (s25 (R05_GetF R02_Must R03_Sum R04_Get)) := by
  refine SumOK.of_leads tab_ok (fun ar os r ha hr => ?_) ⟨Try.f25, rfl, by decide, rfl⟩
  replace hr : r25 (R05_GetF R02_Must R03_Sum R04_Get) ar (conts os) = some r := hr
  unfold r25 at hr
  generalize hc : conts os = C at hr
  have hq := dV.elim hr; clear hr; obtain ⟨v0, l1, y0, rfl, e0, hr⟩ := hq; obtain rfl := asS_eq _ _ e0
  have hq := dEnd.elim hr; clear hr; obtain ⟨rfl, rfl, hr⟩ := hq
  have hq := ofG.elim hr; clear hr; obtain ⟨x, h, rfl⟩ := hq
  obtain rfl := kinds_nil hc
  exact ⟨_, rfl, leads25 R02_Must R03_Sum R04_Get hS _ x h⟩
def R05_Get : (List UInt8) → Option (ipfour_Head × (List UInt8) × Int) := R05_GetF R02_Must R03_Sum R04_Get
theorem lift25 : SumOK Try.prog 25 (s25 R05_Get) := ok25 R02_Must R03_Sum R04_Get (SumsOK.of_tab ⟨lift74, lift75, lift84, trivial⟩)
end Go.Vm.Code

/- Chapter 5 in plain words: the head. -/
namespace Go.Vm.Code
open Go Go.Vm

def inR (n m : Int) : Bool := decide (0 ≤ n ∧ n ≤ m)
theorem within5_eq (n m : Int) : ipfour_within n m = some (inR n m) := by
  unfold ipfour_within ipfour_withinF inR
  by_cases h : 0 ≤ n
  · rw [cond_p h]; simp [h]
  · rw [cond_n h]; simp [h]
theorem in5_eq (n m : Int) : R05_in n m = some (inR n m) := by
  unfold R05_in R05_inF inR
  by_cases h : 0 ≤ n
  · rw [cond_p (by omega)]; simp [h]
  · rw [cond_n (by omega)]; simp [h]
theorem inR_iff {n m : Int} : inR n m = true ↔ 0 ≤ n ∧ n ≤ m := by unfold inR; simp
def four (a : api_Addr) : Bool := !a.V6 && aok a
theorem four_eq (a : api_Addr) : ipfour_four a = some (four a) := by
  unfold ipfour_four ipfour_fourF four
  rw [aRight_eq]; cases a.V6 <;> rfl
theorem four5_eq (a : api_Addr) : R05_four a = some (four a) := by
  unfold R05_four R05_fourF four
  rw [a4Right_eq]; cases aok a <;> cases a.V6 <;> rfl
def H5 (h : ipfour_Head) : Bool := inR h.Class 255 && inR h.Mark 65535 && inR h.TTL 255 && inR h.Proto 255 && four h.Src && four h.Dst && decide (h.Options.length % 4 = 0) && decide (h.Options.length ≤ 40)
theorem opt_mod (n : Nat) : (((n : Int).tmod 4) == 0) = decide (n % 4 = 0) := by
  rw [Int.tmod_eq_emod_of_nonneg (by omega), Bool.eq_iff_iff, beq_iff_eq, decide_eq_true_eq]; omega
theorem opt_le (n : Nat) : decide ((n : Int) ≤ 40) = decide (n ≤ 40) := by rw [Bool.eq_iff_iff, decide_eq_true_eq, decide_eq_true_eq]; omega
theorem may5_eq (h : ipfour_Head) : ipfour_Head_may h = some (H5 h) := by
  unfold ipfour_Head_may ipfour_Head_mayF H5
  simp only [within5_eq, four_eq, Option.bind_some, opt_mod, opt_le]
  cases inR h.Class 255 <;> cases inR h.Mark 65535 <;> cases inR h.TTL 255 <;> cases inR h.Proto 255 <;> cases four h.Src <;> cases four h.Dst <;> cases decide (h.Options.length % 4 = 0) <;> rfl
theorem right5_eq (h : ipfour_Head) : R05_Right h = some (H5 h) := by
  unfold R05_Right R05_RightF H5
  simp only [in5_eq, four5_eq, Option.bind_some, opt_mod, opt_le]
  cases inR h.Class 255 <;> cases inR h.Mark 65535 <;> cases inR h.TTL 255 <;> cases inR h.Proto 255 <;> cases four h.Src <;> cases four h.Dst <;> cases decide (h.Options.length % 4 = 0) <;> cases decide (h.Options.length ≤ 40) <;> rfl
/-- a head's bytes without their check (n: the packet's length) -/
def hd5 (h : ipfour_Head) (n : Int) : List UInt8 :=
  putS (64 + ((20 + h.Options.length) / 4 : Nat)) 1 ++ putS h.Class 1 ++ putS n 2 ++ putS h.Mark 2 ++ putS (cond h.Whole 64 0) 1 ++ putS 0 1 ++ putS h.TTL 1 ++ putS h.Proto 1 ++ putS 0 2 ++ abytes h.Src ++ abytes h.Dst ++ h.Options
theorem hd5_len (h : ipfour_Head) (n : Int) : (hd5 h n).length ≤ 104 + h.Options.length := by
  have a1 := putS_len (64 + ((20 + h.Options.length) / 4 : Nat)) 1
  have a2 := putS_len h.Class 1
  have a3 := putS_len n 2
  have a4 := putS_len h.Mark 2
  have a5 := putS_len (cond h.Whole 64 0) 1
  have a6 := putS_len 0 1
  have a7 := putS_len h.TTL 1
  have a8 := putS_len h.Proto 1
  have a9 := putS_len 0 2
  have b1 : (abytes h.Src).length ≤ 16 := by rw [abytes_len]; cases h.Src.V6 <;> decide
  have b2 : (abytes h.Dst).length ≤ 16 := by rw [abytes_len]; cases h.Dst.V6 <;> decide
  unfold hd5
  simp only [List.length_append]; omega
def put5 (h : ipfour_Head) (l : List UInt8) : List UInt8 × Int :=
  if H5 h = false then ([], 1) else if 65535 - (20 + (h.Options.length : Int)) < l.length then ([], 5) else
    (setS (hd5 h (20 + h.Options.length + l.length)) 10 2 (65535 - (norm (wsum (hd5 h (20 + h.Options.length + l.length))) : Nat)) ++ l, 0)
theorem setS_len (s : List UInt8) (p k n : Int) : (setS s p k n).length ≤ s.length + 8 := by
  unfold setS
  split
  · simp; omega
  · omega
theorem put5_fin {t l : List UInt8} (ht : t.length ≤ 2 ^ 20) (hl : l.length < 2 ^ 30) : ((check_Of t).bind fun xo => (check_Set t 10 2 (wI .u64 xo)).bind fun s => oreq (decide (s.length + l.length < 2 ^ 63)) (some (s ++ l, (0 : Int)))) = some (setS t 10 2 (65535 - (norm (wsum t) : Nat)) ++ l, 0) := by
  have := norm_le (wsum t)
  have hs := setS_len t 10 2 (65535 - (norm (wsum t) : Nat))
  rw [Of_eq (by omega), Option.bind_some, wU64 (by omega) (by omega), Set_eq (by omega) (by omega), Option.bind_some, oreq_p (by omega)]
theorem put5_rfin {t l : List UInt8} (ht : t.length ≤ 2 ^ 20) (hl : l.length < 2 ^ 30) : ((R03_Of t).bind fun xo => (R03_Set t 10 2 (wI .u64 xo)).bind fun s => oreq (decide (s.length + l.length < 2 ^ 63)) (some (s ++ l, (0 : Int)))) = some (setS t 10 2 (65535 - (norm (wsum t) : Nat)) ++ l, 0) := by
  have := norm_le (wsum t)
  have hs := setS_len t 10 2 (65535 - (norm (wsum t) : Nat))
  rw [R03_Of_eq (by omega), Option.bind_some, wU64 (by omega) (by omega), R03_Set_eq (by omega) (by omega) (by omega), Option.bind_some, oreq_p (by omega)]
theorem tdiv4 (n : Nat) : (20 + (n : Int)).tdiv 4 = (((20 + n) / 4 : Nat) : Int) := by rw [Int.tdiv_eq_ediv_of_nonneg (by omega)]; omega
theorem H5_inv {h : ipfour_Head} (hh : H5 h = true) : (0 ≤ h.Class ∧ h.Class ≤ 255) ∧ (0 ≤ h.Mark ∧ h.Mark ≤ 65535) ∧ (0 ≤ h.TTL ∧ h.TTL ≤ 255) ∧ (0 ≤ h.Proto ∧ h.Proto ≤ 255) ∧ (h.Src.V6 = false ∧ aok h.Src = true) ∧ (h.Dst.V6 = false ∧ aok h.Dst = true) ∧ h.Options.length % 4 = 0 ∧ h.Options.length ≤ 40 := by
  unfold H5 four at hh
  simp only [Bool.and_eq_true, inR_iff, Bool.not_eq_true', decide_eq_true_eq] at hh
  obtain ⟨⟨⟨⟨⟨⟨⟨a, b⟩, c⟩, d⟩, e⟩, f⟩, g⟩, i⟩ := hh
  exact ⟨a, b, c, d, e, f, g, i⟩
theorem p5_eq {h : ipfour_Head} {l : List UInt8} (h1 : A4 h.Src) (h2 : A4 h.Dst) (hl : l.length < 2 ^ 20) (ho : h.Options.length < 2 ^ 20) : ipfour_Put h l = some (put5 h l) := by
  unfold ipfour_Put ipfour_PutF put5
  rw [may5_eq, Option.bind_some]
  cases hh : H5 h
  · rfl
  obtain ⟨q1, q2, q3, q4, q5, q6, q7, q8⟩ := H5_inv hh
  simp only [Bool.not_true, cond_false]
  rw [if_neg (by decide), wI64 (n := 20 + (h.Options.length : Int)) (by omega) (by omega), wI64 (n := 65535 - (20 + (h.Options.length : Int))) (by omega) (by omega)]
  by_cases h5 : (l.length : Int) > 65535 - (20 + (h.Options.length : Int))
  · rw [cond_p h5, if_pos (by omega)]
  rw [cond_n h5, if_neg (by omega)]
  have b1 : (abytes h.Src).length ≤ 16 := by rw [abytes_len]; cases h.Src.V6 <;> decide
  have b2 : (abytes h.Dst).length ≤ 16 := by rw [abytes_len]; cases h.Dst.V6 <;> decide
  have eo : iorI .i64 64 (wI .i64 (((20 + h.Options.length) / 4 : Nat) : Int)) = 64 + (((20 + h.Options.length) / 4 : Nat) : Int) := by
    rw [wI64 (by omega) (by omega)]
    exact iorI64_low 4 (a := 4) (by omega) (by omega) (by omega) (by omega) (by omega)
  have hlen := hd5_len h (20 + h.Options.length + l.length)
  have key : ∀ fl : Int, fl = cond h.Whole 64 0 → ((ipfour_row [64 + (((20 + h.Options.length) / 4 : Nat) : Int), 1, h.Class, 1, 20 + (h.Options.length : Int) + l.length, 2, h.Mark, 2, fl, 1, 0, 1, h.TTL, 1, h.Proto, 1, 0, 2]).bind fun xr => oreq (decide ((abytes h.Src).length + (abytes h.Dst).length < 2 ^ 63)) <| oreq (decide ((abytes h.Src ++ abytes h.Dst).length + h.Options.length < 2 ^ 63)) <| oreq (decide (xr.length + ((abytes h.Src ++ abytes h.Dst) ++ h.Options).length < 2 ^ 63)) <|
      (check_Of (xr ++ ((abytes h.Src ++ abytes h.Dst) ++ h.Options))).bind fun xo => (check_Set (xr ++ ((abytes h.Src ++ abytes h.Dst) ++ h.Options)) 10 2 (wI .u64 xo)).bind fun s => oreq (decide (s.length + l.length < 2 ^ 63)) (some (s ++ l, (0 : Int)))) = some (setS (hd5 h (20 + h.Options.length + l.length)) 10 2 (65535 - (norm (wsum (hd5 h (20 + h.Options.length + l.length))) : Nat)) ++ l, 0) := by
    intro fl hfl
    have hfr : 0 ≤ fl ∧ fl ≤ 64 := by subst hfl; cases h.Whole <;> decide
    have hrow : rowS [64 + (((20 + h.Options.length) / 4 : Nat) : Int), 1, h.Class, 1, 20 + (h.Options.length : Int) + l.length, 2, h.Mark, 2, fl, 1, 0, 1, h.TTL, 1, h.Proto, 1, 0, 2] = putS (64 + ((20 + h.Options.length) / 4 : Nat)) 1 ++ (putS h.Class 1 ++ (putS (20 + (h.Options.length : Int) + l.length) 2 ++ (putS h.Mark 2 ++ (putS fl 1 ++ (putS 0 1 ++ (putS h.TTL 1 ++ (putS h.Proto 1 ++ (putS 0 2 ++ [])))))))) := by
      simp only [rowS]
      rw [wU64 (n := 64 + (((20 + h.Options.length) / 4 : Nat) : Int)) (by omega) (by omega), wU64 q1.1 (by omega), wU64 (n := 20 + (h.Options.length : Int) + l.length) (by omega) (by omega), wU64 q2.1 (by omega), wU64 hfr.1 (by omega), wU64 q3.1 (by omega), wU64 q4.1 (by omega), show wI .u64 0 = 0 from rfl]
    rw [rowG_eq (by simp) (by simp) (by simp), hrow, Option.bind_some]
    have e : putS (64 + ((20 + h.Options.length) / 4 : Nat)) 1 ++ (putS h.Class 1 ++ (putS (20 + (h.Options.length : Int) + l.length) 2 ++ (putS h.Mark 2 ++ (putS fl 1 ++ (putS 0 1 ++ (putS h.TTL 1 ++ (putS h.Proto 1 ++ (putS 0 2 ++ [])))))))) ++ (abytes h.Src ++ abytes h.Dst ++ h.Options) = hd5 h (20 + h.Options.length + l.length) := by
      subst hfl; unfold hd5; simp only [List.append_assoc, List.append_nil]
    have hl2 := congrArg List.length e
    rw [List.length_append] at hl2
    rw [oreq_p (by omega), oreq_p (by simp only [List.length_append]; omega), oreq_p (by omega), e]
    exact put5_fin (by omega) (by omega)
  rw [wI64 (n := 20 + (h.Options.length : Int) + l.length) (by omega) (by omega), tdiv4, eo, aPut_eq h1 q5.2, aPut_eq h2 q6.2]
  simp only [Option.bind_some]
  cases hw : h.Whole
  · rw [cond_false]
    have := key 0 (by rw [hw]; rfl)
    rw [hw] at *
    exact this
  · rw [cond_true]
    have := key 64 (by rw [hw]; rfl)
    exact this
theorem rp5_eq {h : ipfour_Head} {l : List UInt8} (h1 : A4 h.Src) (h2 : A4 h.Dst) (hl : l.length < 2 ^ 20) (ho : h.Options.length < 2 ^ 20) : R05_Put h l = some (put5 h l) := by
  unfold R05_Put R05_PutF put5
  rw [right5_eq, Option.bind_some]
  cases hh : H5 h
  · rfl
  obtain ⟨q1, q2, q3, q4, q5, q6, q7, q8⟩ := H5_inv hh
  simp only [Bool.not_true, cond_false]
  rw [if_neg (by decide), wI64 (n := 20 + (h.Options.length : Int)) (by omega) (by omega), wI64 (n := 65535 - (20 + (h.Options.length : Int))) (by omega) (by omega)]
  by_cases h5 : (l.length : Int) > 65535 - (20 + (h.Options.length : Int))
  · rw [cond_p h5, if_pos (by omega)]
  rw [cond_n h5, if_neg (by omega)]
  have b1 : (abytes h.Src).length ≤ 16 := by rw [abytes_len]; cases h.Src.V6 <;> decide
  have b2 : (abytes h.Dst).length ≤ 16 := by rw [abytes_len]; cases h.Dst.V6 <;> decide
  rw [wI64 (n := 20 + (h.Options.length : Int) + l.length) (by omega) (by omega), tdiv4, wI64 (n := (((20 + h.Options.length) / 4 : Nat) : Int)) (by omega) (by omega), wI64 (n := 64 + (((20 + h.Options.length) / 4 : Nat) : Int)) (by omega) (by omega), a4Put_eq h1 q5.2, a4Put_eq h2 q6.2]
  simp only [num5W_eq, Option.bind_some]
  rw [wU64 (n := 64 + (((20 + h.Options.length) / 4 : Nat) : Int)) (by omega) (by omega), wU64 q1.1 (by omega), wU64 (n := 20 + (h.Options.length : Int) + l.length) (by omega) (by omega), wU64 q2.1 (by omega), wU64 q3.1 (by omega), wU64 q4.1 (by omega), show wI .u64 0 = 0 from rfl, show wI .u64 64 = 64 from rfl]
  have a1 := putS_len (64 + ((20 + h.Options.length) / 4 : Nat)) 1
  have a2 := putS_len h.Class 1
  have a3 := putS_len (20 + (h.Options.length : Int) + l.length) 2
  have a4 := putS_len h.Mark 2
  have a5 := putS_len 64 1
  have a6 := putS_len 0 1
  have a7 := putS_len h.TTL 1
  have a8 := putS_len h.Proto 1
  have a9 := putS_len 0 2
  have hlen := hd5_len h (20 + h.Options.length + l.length)
  cases hw : h.Whole
  · rw [cond_false]
    have e : putS (64 + ((20 + h.Options.length) / 4 : Nat)) 1 ++ putS h.Class 1 ++ putS (20 + (h.Options.length : Int) + l.length) 2 ++ putS h.Mark 2 ++ putS 0 1 ++ putS 0 1 ++ putS h.TTL 1 ++ putS h.Proto 1 ++ putS 0 2 ++ abytes h.Src ++ abytes h.Dst ++ h.Options = hd5 h (20 + h.Options.length + l.length) := by unfold hd5; rw [hw]; rfl
    iterate 11 rw [oreq_p (by first | omega | (simp only [List.length_append]; omega))]
    rw [e]
    exact put5_rfin (by omega) (by omega)
  · rw [cond_true]
    have e : putS (64 + ((20 + h.Options.length) / 4 : Nat)) 1 ++ putS h.Class 1 ++ putS (20 + (h.Options.length : Int) + l.length) 2 ++ putS h.Mark 2 ++ putS 64 1 ++ putS 0 1 ++ putS h.TTL 1 ++ putS h.Proto 1 ++ putS 0 2 ++ abytes h.Src ++ abytes h.Dst ++ h.Options = hd5 h (20 + h.Options.length + l.length) := by unfold hd5; rw [hw]; rfl
    iterate 11 rw [oreq_p (by first | omega | (simp only [List.length_append]; omega))]
    rw [e]
    exact put5_rfin (by omega) (by omega)
end Go.Vm.Code

/- A mask of one bit struck out. -/
namespace Go.Vm.Code
open Go Go.Vm
theorem andn_tab : ∀ a b : Fin 256, (andnI .i64 ((a.val * 256 + b.val : Nat) : Int) 16384 != 0) = (a.val * 256 + b.val != 0 && a.val * 256 + b.val != 16384) := by decide +kernel
theorem andn_flag {a b : UInt8} : (andnI .i64 ((a.toNat : Int) * 256 + b.toNat) 16384 != 0) = decide ((a.toNat : Int) * 256 + b.toNat ≠ 0 ∧ (a.toNat : Int) * 256 + b.toNat ≠ 16384) := by
  have := andn_tab ⟨a.toNat, a.toNat_lt⟩ ⟨b.toNat, b.toNat_lt⟩
  simp only at this
  rw [show (a.toNat : Int) * 256 + b.toNat = ((a.toNat * 256 + b.toNat : Nat) : Int) by omega, this, Bool.eq_iff_iff]
  simp only [Bool.and_eq_true, bne_iff_ne, decide_eq_true_eq]; omega
end Go.Vm.Code

/- Chapter 5 in plain words: a packet read. -/
namespace Go.Vm.Code
open Go Go.Vm

/-- some bytes' number -/
def vK (s : List UInt8) (p k : Nat) : Int := (valL ((s.drop p).take k) : Nat)
theorem vK_rng (s : List UInt8) (p k n : Nat) (h : 256 ^ k ≤ n) : 0 ≤ vK s p k ∧ vK s p k < n := by
  have := val_take_lt (l := s.drop p) (k := k) n h
  unfold vK; omega
theorem num_at {s : List UInt8} {p k : Nat} (h1 : 1 ≤ k) (h7 : k ≤ 7) (h : p + k ≤ s.length) (hl : s.length < 2 ^ 61) : octet_Reader_Num ⟨s.drop p, true, false⟩ (k : Int) = some (vK s p k, ⟨s.drop (p + k), true, false⟩) := by
  have hd : (s.drop p).length = s.length - p := by simp
  rw [rNum_eq rfl (by simp only; omega), if_neg (by omega), rdr_ok (by omega) (by omega)]
  unfold rdn
  rw [if_neg (by omega), rdt_ok (by omega) (by omega), Int.toNat_natCast, List.drop_drop]; rfl
theorem text_at {s : List UInt8} {p k : Nat} (h : p + k ≤ s.length) : octet_Reader_Text ⟨s.drop p, true, false⟩ (k : Int) = some ((s.drop p).take k, ⟨s.drop (p + k), true, false⟩) := by
  have hd : (s.drop p).length = s.length - p := by simp
  rw [rText_eq rfl, rdr_ok (by omega) (by omega), rdt_ok (by omega) (by omega), Int.toNat_natCast, List.drop_drop]
theorem must_at {s : List UInt8} {p k : Nat} (hs : s.length < 2 ^ 61) (h1 : 1 ≤ k) (h7 : k ≤ 7) (h : p + k ≤ s.length) : R02_Must s (p : Int) (k : Int) = some (vK s p k) := by
  rw [R02_Must_eq hs, getS_at (by omega) (by omega) (by omega) (by omega)]
  have := vK_rng s p k (256 ^ k) (Nat.le_refl _)
  have h8 : 256 ^ k ≤ 256 ^ 7 := Nat.pow_le_pow_right (by decide) h7
  have h9 : (256 : Nat) ^ 7 = 72057594037927936 := by decide
  show some (wI .i64 (vK s p k)) = _
  rw [wI64 (by omega) (by omega)]
theorem vK_one {s : List UInt8} {p : Nat} (h : p < s.length) : vK s p 1 = (s[p].toNat : Int) := by
  unfold vK
  rw [List.drop_eq_getElem_cons h]
  show ((valL [s[p]] : Nat) : Int) = _
  rw [val_cons]; simp
theorem vK_two {s : List UInt8} {p : Nat} (h : p + 1 < s.length) : vK s p 2 = (s[p].toNat * 256 + s[p + 1].toNat : Int) := by
  unfold vK
  rw [List.drop_eq_getElem_cons (by omega : p < s.length), List.drop_eq_getElem_cons h]
  show ((valL [s[p], s[p + 1]] : Nat) : Int) = _
  rw [val_cons, val_cons]; simp
def zero5 : ipfour_Head := ⟨0, 0, false, 0, 0, ⟨false, 0, 0⟩, ⟨false, 0, 0⟩, []⟩
def adr4 (s : List UInt8) (p : Nat) : api_Addr := ⟨false, 0, vK s p 4⟩
def get5 (s : List UInt8) : ipfour_Head × List UInt8 × Int :=
  if s.length < 20 then (zero5, [], 2) else if vK s 0 1 / 16 ≠ 4 then (zero5, [], 3) else if vK s 0 1 % 16 * 4 < 20 then (zero5, [], 3) else if vK s 2 2 < vK s 0 1 % 16 * 4 then (zero5, [], 3) else if (s.length : Int) < vK s 2 2 then (zero5, [], 2) else
    if norm (wsum (s.take (vK s 0 1 % 16 * 4).toNat)) ≠ 65535 then (zero5, [], 4) else if vK s 6 2 ≠ 0 ∧ vK s 6 2 ≠ 16384 then (zero5, [], 7) else
      (⟨vK s 1 1, vK s 4 2, vK s 6 2 != 0, vK s 8 1, vK s 9 1, adr4 s 12, adr4 s 16, (s.drop 20).take ((vK s 0 1 % 16 * 4).toNat - 20)⟩, (s.drop (vK s 0 1 % 16 * 4).toNat).take ((vK s 2 2).toNat - (vK s 0 1 % 16 * 4).toNat), 0)
theorem aget4 {s : List UInt8} (h : s.length = 4) : addr_Get s = some (⟨false, 0, vK s 0 4⟩, true) := by
  unfold addr_Get addr_GetF
  rw [show ((s.length : Int) == 4) = true by rw [h]; rfl, cond_true, octet_Get_eq (by omega), getS_at (by omega) (by omega) (by omega) (by omega)]; rfl
theorem a4get4 {s : List UInt8} (h : s.length = 4) : R04_Get s = some (⟨false, 0, vK s 0 4⟩, true) := by
  unfold R04_Get R04_GetF
  rw [show ((s.length : Int) == 4) = true by rw [h]; rfl, cond_true, R02_Get_eq (by omega), getS_at (by omega) (by omega) (by omega) (by omega)]; rfl
theorem vK_sub (s : List UInt8) (p : Nat) : vK ((s.drop p).take 4) 0 4 = vK s p 4 := by unfold vK; simp [List.take_take]
theorem faddr {s : List UInt8} {p : Nat} (h : p + 4 ≤ s.length) : ipfour_fields_address ⟨⟨s.drop p, true, false⟩⟩ = some (adr4 s p, ⟨s.drop (p + 4), true, false⟩) := by
  unfold ipfour_fields_address ipfour_fields_addressF
  rw [show (4 : Int) = ((4 : Nat) : Int) from rfl, text_at h, Option.bind_some, aget4 (by simp; omega), Option.bind_some, vK_sub]; rfl
theorem g5_eq {s : List UInt8} (hs : s.length < 2 ^ 38) : ipfour_Get s = some (get5 s) := by
  unfold ipfour_Get ipfour_GetF get5
  by_cases h0 : s.length < 20
  · rw [cond_p (by omega), if_pos h0]; rfl
  rw [cond_n (by omega), if_neg h0, rNew_eq, Option.bind_some]
  have N : ∀ (p k : Nat), 1 ≤ k → k ≤ 7 → p + k ≤ 20 → octet_Reader_Num ⟨s.drop p, true, false⟩ (k : Int) = some (vK s p k, ⟨s.drop (p + k), true, false⟩) := fun p k a b c => num_at a b (by omega) (by omega)
  have N0 : octet_Reader_Num ⟨s, true, false⟩ 1 = some (vK s 0 1, ⟨s.drop 1, true, false⟩) := N 0 1 (by omega) (by omega) (by omega)
  have N1 : octet_Reader_Num ⟨s.drop 1, true, false⟩ 1 = some (vK s 1 1, ⟨s.drop 2, true, false⟩) := N 1 1 (by omega) (by omega) (by omega)
  have N2 : octet_Reader_Num ⟨s.drop 2, true, false⟩ 2 = some (vK s 2 2, ⟨s.drop 4, true, false⟩) := N 2 2 (by omega) (by omega) (by omega)
  have N4 : octet_Reader_Num ⟨s.drop 4, true, false⟩ 2 = some (vK s 4 2, ⟨s.drop 6, true, false⟩) := N 4 2 (by omega) (by omega) (by omega)
  have N6 : octet_Reader_Num ⟨s.drop 6, true, false⟩ 2 = some (vK s 6 2, ⟨s.drop 8, true, false⟩) := N 6 2 (by omega) (by omega) (by omega)
  have N8 : octet_Reader_Num ⟨s.drop 8, true, false⟩ 1 = some (vK s 8 1, ⟨s.drop 9, true, false⟩) := N 8 1 (by omega) (by omega) (by omega)
  have N9 : octet_Reader_Num ⟨s.drop 9, true, false⟩ 1 = some (vK s 9 1, ⟨s.drop 10, true, false⟩) := N 9 1 (by omega) (by omega) (by omega)
  have N10 : octet_Reader_Num ⟨s.drop 10, true, false⟩ 2 = some (vK s 10 2, ⟨s.drop 12, true, false⟩) := N 10 2 (by omega) (by omega) (by omega)
  rw [N0, Option.bind_some, N1, Option.bind_some, N2, Option.bind_some]
  simp only []
  rw [N4]
  simp only [Option.bind_some]
  rw [N6, fdivP, show ((2 : Int) ^ 4) = 16 from rfl]
  have r0 := vK_rng s 0 1 256 (by decide)
  have r2 := vK_rng s 2 2 65536 (by decide)
  have ea : andI .i64 (vK s 0 1) 15 = vK s 0 1 % 16 := andI64_mask 4 rfl (by omega) (by omega) (by omega)
  rw [ea, wI64 (n := vK s 0 1 % 16 * 4) (by omega) (by omega)]
  have hz : (⟨0, 0, false, 0, 0, ⟨false, 0, 0⟩, ⟨false, 0, 0⟩, []⟩ : ipfour_Head) = zero5 := rfl
  rw [hz]
  by_cases g1 : vK s 0 1 / 16 = 4
  · rw [show (vK s 0 1 / 16 != 4) = false by simpa using g1, cond_false, if_neg (by simpa using g1)]
    obtain ⟨t, ht⟩ := Int.eq_ofNat_of_zero_le (show 0 ≤ vK s 0 1 % 16 * 4 by omega)
    rw [ht]
    simp only [Option.bind_some, Int.toNat_natCast]
    by_cases g2 : (t : Int) < 20
    · rw [cond_p g2, if_pos g2]
    rw [cond_n g2, if_neg g2]
    by_cases g3 : vK s 2 2 < t
    · rw [cond_p g3, if_pos g3]
    rw [cond_n g3, if_neg g3]
    by_cases g4 : (s.length : Int) < vK s 2 2
    · rw [cond_p (by omega), if_pos g4]
    rw [cond_n (by omega), if_neg g4, oreq_p (by omega), Right_eq (by simp; omega), Option.bind_some]
    by_cases g5 : norm (wsum (s.take t)) = 65535
    · rw [if_neg (by simpa using g5), g5]
      simp only [show ((((65535 : Nat) : Int) == 65535)) = true from rfl, Bool.not_true, cond_false]
      have e6 := vK_two (s := s) (p := 6) (by omega)
      rw [show (andnI .i64 (vK s 6 2) 16384 != 0) = decide (vK s 6 2 ≠ 0 ∧ vK s 6 2 ≠ 16384) by rw [e6]; exact andn_flag, cond_dec]
      split
      · rfl
      obtain ⟨m, hm⟩ := Int.eq_ofNat_of_zero_le r2.1
      rw [N8, Option.bind_some, N9, Option.bind_some, N10, Option.bind_some, faddr (by omega), Option.bind_some, faddr (by omega), Option.bind_some, wI64 (n := (t : Int) - 20) (by omega) (by omega), hm, wI64 (n := (m : Int) - t) (by omega) (by omega)]
      simp only []
      rw [show (t : Int) - 20 = ((t - 20 : Nat) : Int) by omega, show (m : Int) - t = ((m - t : Nat) : Int) by omega, text_at (by omega), Option.bind_some]
      simp only []
      rw [text_at (by omega), Option.bind_some, show 12 + 4 + 4 + (t - 20) = t by omega, Int.toNat_natCast]
    · rw [if_pos (by simpa using g5), show ((((norm (wsum (s.take t)) : Nat) : Int) == 65535)) = false by simp; omega]; rfl
  · rw [show (vK s 0 1 / 16 != 4) = true by simpa using g1, cond_true, if_pos (by simpa using g1)]
theorem rg5_eq {s : List UInt8} (hs : s.length < 2 ^ 38) : R05_Get s = some (get5 s) := by
  unfold R05_Get R05_GetF get5
  by_cases h0 : s.length < 20
  · rw [cond_p (by omega), if_pos h0]; rfl
  rw [cond_n (by omega), if_neg h0]
  have G : ∀ i : Nat, (h : i < 20) → s[i]? = some (s[i]'(by omega)) := fun i h => List.getElem?_eq_getElem (by omega)
  have M : ∀ (p k : Nat), 1 ≤ k → k ≤ 7 → p + k ≤ 20 → R02_Must s (p : Int) (k : Int) = some (vK s p k) := fun p k a b c => must_at (by omega) a b (by omega)
  have M2 : R02_Must s 2 2 = some (vK s 2 2) := M 2 2 (by omega) (by omega) (by omega)
  have M4 : R02_Must s 4 2 = some (vK s 4 2) := M 4 2 (by omega) (by omega) (by omega)
  rw [G 0 (by omega), G 1 (by omega), G 6 (by omega), G 7 (by omega), G 8 (by omega), G 9 (by omega), M2, M4]
  have e0 := vK_one (s := s) (p := 0) (by omega)
  have e1 := vK_one (s := s) (p := 1) (by omega)
  have e8 := vK_one (s := s) (p := 8) (by omega)
  have e9 := vK_one (s := s) (p := 9) (by omega)
  have e6 : vK s 6 2 = (s[6].toNat * 256 + s[7].toNat : Int) := vK_two (s := s) (p := 6) (by omega)
  have r0 := vK_rng s 0 1 256 (by decide)
  have r1 := vK_rng s 1 1 256 (by decide)
  have r8 := vK_rng s 8 1 256 (by decide)
  have r9 := vK_rng s 9 1 256 (by decide)
  have r2 := vK_rng s 2 2 65536 (by decide)
  simp only [Option.bind_some]
  rw [← e0, ← e1, ← e8, ← e9, Int.tmod_eq_emod_of_nonneg r0.1, Int.tdiv_eq_ediv_of_nonneg r0.1, wI64 (n := vK s 0 1 % 16) (by omega) (by omega), wI64 (n := 4 * (vK s 0 1 % 16)) (by omega) (by omega), wU8 (n := vK s 0 1 / 16) (by omega) (by omega), wI64 (n := vK s 1 1) (by omega) (by omega), wI64 (n := vK s 8 1) (by omega) (by omega), wI64 (n := vK s 9 1) (by omega) (by omega)]
  have hz : (⟨0, 0, false, 0, 0, ⟨false, 0, 0⟩, ⟨false, 0, 0⟩, []⟩ : ipfour_Head) = zero5 := rfl
  rw [hz, Int.mul_comm 4]
  by_cases g1 : vK s 0 1 / 16 = 4
  · rw [show (vK s 0 1 / 16 != 4) = false by simpa using g1, cond_false, if_neg (by simpa using g1)]
    obtain ⟨t, ht⟩ := Int.eq_ofNat_of_zero_le (show 0 ≤ vK s 0 1 % 16 * 4 by omega)
    rw [ht]
    simp only [Int.toNat_natCast]
    by_cases g2 : (t : Int) < 20
    · rw [cond_p g2, if_pos g2]
    rw [cond_n g2, if_neg g2]
    by_cases g3 : vK s 2 2 < t
    · rw [cond_p g3, if_pos g3]
    rw [cond_n g3, if_neg g3]
    by_cases g4 : (s.length : Int) < vK s 2 2
    · rw [cond_p (by omega), if_pos g4]
    rw [cond_n (by omega), if_neg g4, oreq_p (by omega), R03_Sum_eq (by simp; omega), Option.bind_some]
    by_cases g5 : norm (wsum (s.take t)) = 65535
    · rw [if_neg (by simpa using g5), g5]
      simp only [show ((((65535 : Nat) : Int) != 65535)) = false from rfl, cond_false]
      have a1 := a4get4 (s := (s.drop 12).take 4) (by simp; omega)
      have a2 := a4get4 (s := (s.drop 16).take 4) (by simp; omega)
      rw [a1, a2, vK_sub, vK_sub]
      obtain ⟨m, hm⟩ := Int.eq_ofNat_of_zero_le r2.1
      rw [hm]
      simp only [Option.bind_some, Int.toNat_natCast]
      rw [oreq_p (p := (0 : Int) ≤ 16 ∧ (16 : Int) ≤ (s.length : Int) ∧ (0 : Int) ≤ 12 ∧ (12 : Int) ≤ 16) (by omega), oreq_p (p := (0 : Int) ≤ 20 ∧ (20 : Int) ≤ (s.length : Int) ∧ (0 : Int) ≤ 16 ∧ (16 : Int) ≤ 20) (by omega), oreq_p (p := (0 : Int) ≤ (t : Int) ∧ (t : Int) ≤ (s.length : Int) ∧ (0 : Int) ≤ 20 ∧ (20 : Int) ≤ (t : Int)) (by omega), oreq_p (p := (0 : Int) ≤ (m : Int) ∧ (m : Int) ≤ (s.length : Int) ∧ (0 : Int) ≤ (t : Int) ∧ (t : Int) ≤ (m : Int)) (by omega)]
      have b6 := s[6].toNat_lt
      have b7 := s[7].toNat_lt
      by_cases k6 : (s[6].toNat : Int) = 0
      · rw [show ((s[6].toNat : Int) != 0) = false by simpa using k6, cond_false]
        by_cases k7 : (s[7].toNat : Int) = 0
        · rw [show ((s[7].toNat : Int) != 0) = false by simpa using k7, cond_false, if_neg (by rw [e6]; omega), show (vK s 6 2 != 0) = false by rw [e6, k6, k7]; rfl, k6]; rfl
        · rw [show ((s[7].toNat : Int) != 0) = true by simpa using k7, cond_true, if_pos (by rw [e6]; omega)]
      · rw [show ((s[6].toNat : Int) != 0) = true by simpa using k6, cond_true]
        by_cases k8 : (s[6].toNat : Int) = 64
        · rw [show ((s[6].toNat : Int) != 64) = false by rw [k8]; rfl, cond_false]
          by_cases k7 : (s[7].toNat : Int) = 0
          · rw [show ((s[7].toNat : Int) != 0) = false by simpa using k7, cond_false, if_neg (by rw [e6]; omega), show (vK s 6 2 != 0) = true by rw [e6, k8, k7]; rfl, k8]; rfl
          · rw [show ((s[7].toNat : Int) != 0) = true by simpa using k7, cond_true, if_pos (by rw [e6]; omega)]
        · rw [show ((s[6].toNat : Int) != 64) = true by simpa using k8, cond_true, if_pos (by rw [e6]; omega)]
    · rw [if_pos (by simpa using g5), show ((((norm (wsum (s.take t)) : Nat) : Int) != 65535)) = true by simp; omega]; rfl
  · rw [show (vK s 0 1 / 16 != 4) = true by simpa using g1, cond_true, if_pos (by simpa using g1)]
end Go.Vm.Code

namespace Go.Vm.Code
open Go Go.Vm Go.Proofs
set_option maxRecDepth 100000
set_option maxHeartbeats 4000000
set_option linter.unusedVariables false

/-! cloakroom/cloakroomlaw05.awake -/
def law05_awakeF (ipfour_Get : (List UInt8) → Option (ipfour_Head × (List UInt8) × Int)) (ipfour_Put : ipfour_Head → (List UInt8) → Option ((List UInt8) × Int)) : Option Bool :=
  (ipfour_Put (ipfour_Head.mk 0 0 false 64 6 (api_Addr.mk false 0 1) (api_Addr.mk false 0 2) []) []).bind fun p =>
  (ipfour_Get p.1).bind fun xg =>
  (ipfour_Get []).bind fun xg1 =>
  cond (p.2 == 0)
    (
    cond ((p.1.length : Int) == 20)
      (
      (p.1[0]?).bind fun (b : UInt8) =>
      cond ((b.toNat : Int) == 69)
        (
        cond (xg.2.2 == 0)
          (
          some (xg1.2.2 == 2))
          (
          some (false)))
        (
        some (false)))
      (
      some (false)))
    (
    some (false))
def rx20 (x : Bool) : SRes := ⟨.bool x, [], []⟩
def r20 (g : Option Bool) : Dec := dEnd (ofG (g) rx20)
theorem r20_c {g : Option Bool} {x : Bool} (hx : g = some x) : r20 g [] [] = some (rx20 x) := ofG_eq hx
def s20 (g : Option Bool) : Summ := ⟨[], r20 g⟩
theorem r20_eq {g : Option Bool} {x : Bool} (hx : g = some x) : (s20 g).run [] [] = some (rx20 x) := r20_c hx
abbrev sums20 (ipfour_Get : (List UInt8) → Option (ipfour_Head × (List UInt8) × Int)) (ipfour_Put : ipfour_Head → (List UInt8) → Option ((List UInt8) × Int)) : List (Nat × Summ) := [(24, s24 ipfour_Get), (21, s21 ipfour_Put)]
theorem leads20 (ipfour_Get : (List UInt8) → Option (ipfour_Head × (List UInt8) × Int)) (ipfour_Put : ipfour_Head → (List UInt8) → Option ((List UInt8) × Int)) (hS : SumsOK Try.prog (aget (sums20 ipfour_Get ipfour_Put))) (res : Bool) (h : law05_awakeF ipfour_Get ipfour_Put = some res) :
    Leads Try.prog 20 0 ⟨⟨20, 47, [], [.code k20_9], [], false, none⟩, [], [], 0⟩ (fun v H _ => Res 0 (rx20 res) v H) := by
  unfold law05_awakeF at h
  refine ev_ok tab_ok hS true 3000 ?_
  conv => whnf
  obtain ⟨p, hy, h2⟩ := obind.elim h; clear h; have h := h2; clear h2
  refine sumK.introF [] (sumRun_of (aqs := [.agg ⟨[.int .i64 0, .int .i64 0, .bool false, .int .i64 64, .int .i64 6, .bool false, .int .u64 0, .int .u64 1, .bool false, .int .u64 0, .int .u64 2, .string ⟨⟨[]⟩⟩]⟩, .string ⟨⟨[]⟩⟩]) (ws := []) (n := 0) (m := 0) (t' := 0) (ra_cons rfl rfl (ra_cons rfl rfl ra_nil)) rfl (by rfl) (r21_eq hy) rfl rfl rfl rfl wb_nil an_nil rfl) ?_
  conv => whnf
  obtain ⟨xg, hy, h2⟩ := obind.elim h; clear h; have h := h2; clear h2
  refine sumK.introF [] (sumRun_of (aqs := [.string ⟨⟨p.1⟩⟩]) (ws := []) (n := 0) (m := 0) (t' := 0) (ra_cons rfl rfl ra_nil) rfl (by rfl) (r24_eq hy) rfl rfl rfl rfl wb_nil an_nil rfl) ?_
  conv => whnf
  obtain ⟨xg1, hy, h2⟩ := obind.elim h; clear h; have h := h2; clear h2
  refine sumK.introF [] (sumRun_of (aqs := [.string ⟨⟨[]⟩⟩]) (ws := []) (n := 0) (m := 0) (t' := 1) (ra_cons rfl rfl ra_nil) rfl (by rfl) (r24_eq hy) rfl rfl rfl rfl wb_nil an_nil rfl) ?_
  conv => whnf
  refine br.h2 h ?_ ?_ ?_
  · rfl
  · clear h; intro hb h; conv => whnf
    all_goals (cases h)
    all_goals exact Res.of [] rfl nw_0 (by decide) js_0 wr_0
  clear h; intro hb h; conv => whnf
  refine br.h2 h ?_ ?_ ?_
  · rfl
  · clear h; intro hb h; conv => whnf
    all_goals (cases h)
    all_goals exact Res.of [] rfl nw_0 (by decide) js_0 wr_0
  clear h; intro hb h; conv => whnf
  obtain ⟨b, hy, h2⟩ := obind.elim h; clear h; have h := h2; clear h2
  refine rdS.intro hy ?_
  conv => whnf
  refine br.h2 h ?_ ?_ ?_
  · rfl
  · clear h; intro hb h; conv => whnf
    all_goals (cases h)
    all_goals exact Res.of [] rfl nw_0 (by decide) js_0 wr_0
  clear h; intro hb h; conv => whnf
  refine br.h h ?_ ?_ ?_
  · rfl
  · clear h; intro hb h; conv => whnf
    all_goals (cases h)
    all_goals exact Res.of [] rfl nw_0 (by decide) js_0 wr_0
  clear h; intro hb h; conv => whnf
  all_goals (cases h)
  all_goals exact Res.of [] rfl nw_0 (by decide) js_0 wr_0
theorem ok20 (ipfour_Get : (List UInt8) → Option (ipfour_Head × (List UInt8) × Int)) (ipfour_Put : ipfour_Head → (List UInt8) → Option ((List UInt8) × Int)) (hS : SumsOK Try.prog (aget (sums20 ipfour_Get ipfour_Put))) : SumOK Try.prog 20 (s20 (law05_awakeF ipfour_Get ipfour_Put)) := by
  refine SumOK.of_leads tab_ok (fun ar os r ha hr => ?_) ⟨Try.f20, rfl, by decide, rfl⟩
  replace hr : r20 (law05_awakeF ipfour_Get ipfour_Put) ar (conts os) = some r := hr
  unfold r20 at hr
  generalize hc : conts os = C at hr
  have hq := dEnd.elim hr; clear hr; obtain ⟨rfl, rfl, hr⟩ := hq
  have hq := ofG.elim hr; clear hr; obtain ⟨x, h, rfl⟩ := hq
  obtain rfl := kinds_nil hc
  exact ⟨_, rfl, leads20 ipfour_Get ipfour_Put hS x h⟩
def law05_awake : Option Bool := law05_awakeF ipfour_Get ipfour_Put
theorem lift20 : SumOK Try.prog 20 (s20 law05_awake) := ok20 ipfour_Get ipfour_Put (SumsOK.of_tab ⟨lift24, lift21, trivial⟩)
end Go.Vm.Code

namespace Go.Vm.Code
open Go Go.Vm Go.Proofs
set_option maxRecDepth 100000
set_option maxHeartbeats 4000000
set_option linter.unusedVariables false

/-! cloakroom/cloakroomlaw05.of -/
def law05_ofF (ha0 : ipfour_Head) : Option ipfour_Head :=
  some (ha0)
def rx22 (x : ipfour_Head) : SRes := ⟨.agg ⟨[.int .i64 x.Class, .int .i64 x.Mark, .bool x.Whole, .int .i64 x.TTL, .int .i64 x.Proto, .bool x.Src.V6, .int .u64 x.Src.Hi, .int .u64 x.Src.Lo, .bool x.Dst.V6, .int .u64 x.Dst.Hi, .int .u64 x.Dst.Lo, .string ⟨⟨x.Options⟩⟩]⟩, [], []⟩
def r22 (g : ipfour_Head → Option ipfour_Head) : Dec := dV uvipfour_Head fun (y0 : ipfour_Head) => dEnd (ofG (g y0) rx22)
theorem r22_c {g : ipfour_Head → Option ipfour_Head} {y0 : ipfour_Head} {x : ipfour_Head} (hx : g y0 = some x) : r22 g [.agg ⟨[.int .i64 y0.Class, .int .i64 y0.Mark, .bool y0.Whole, .int .i64 y0.TTL, .int .i64 y0.Proto, .bool y0.Src.V6, .int .u64 y0.Src.Hi, .int .u64 y0.Src.Lo, .bool y0.Dst.V6, .int .u64 y0.Dst.Hi, .int .u64 y0.Dst.Lo, .string ⟨⟨y0.Options⟩⟩]⟩] [] = some (rx22 x) := (dV_eq (uvipfour_Head_c _)).trans (ofG_eq hx)
def s22 (g : ipfour_Head → Option ipfour_Head) : Summ := ⟨[.v], r22 g⟩
theorem r22_eq {g : ipfour_Head → Option ipfour_Head} {y0 : ipfour_Head} {x : ipfour_Head} (hx : g y0 = some x) : (s22 g).run [.agg ⟨[.int .i64 y0.Class, .int .i64 y0.Mark, .bool y0.Whole, .int .i64 y0.TTL, .int .i64 y0.Proto, .bool y0.Src.V6, .int .u64 y0.Src.Hi, .int .u64 y0.Src.Lo, .bool y0.Dst.V6, .int .u64 y0.Dst.Hi, .int .u64 y0.Dst.Lo, .string ⟨⟨y0.Options⟩⟩]⟩] [] = some (rx22 x) := r22_c hx
abbrev sums22 : List (Nat × Summ) := []
theorem leads22 (hS : SumsOK Try.prog (aget (sums22))) (ha0 : ipfour_Head) (res : ipfour_Head) (h : law05_ofF ha0 = some res) :
    Leads Try.prog 22 0 ⟨⟨22, 20, [(0, .agg ⟨[.int .i64 ha0.Class, .int .i64 ha0.Mark, .bool ha0.Whole, .int .i64 ha0.TTL, .int .i64 ha0.Proto, .bool ha0.Src.V6, .int .u64 ha0.Src.Hi, .int .u64 ha0.Src.Lo, .bool ha0.Dst.V6, .int .u64 ha0.Dst.Hi, .int .u64 ha0.Dst.Lo, .string ⟨⟨ha0.Options⟩⟩]⟩)], [.code k22_3], [], false, none⟩, [], [], 0⟩ (fun v H _ => Res 0 (rx22 res) v H) := by
  unfold law05_ofF at h
  refine ev_ok tab_ok hS true 3000 ?_
  conv => whnf
  all_goals (cases h)
  all_goals exact Res.of [] rfl nw_0 (by decide) js_0 wr_0
theorem ok22 (hS : SumsOK Try.prog (aget (sums22))) : SumOK Try.prog 22 (s22 (law05_ofF)) := by
  refine SumOK.of_leads tab_ok (fun ar os r ha hr => ?_) ⟨Try.f22, rfl, by decide, rfl⟩
  replace hr : r22 (law05_ofF) ar (conts os) = some r := hr
  unfold r22 at hr
  generalize hc : conts os = C at hr
  have hq := dV.elim hr; clear hr; obtain ⟨v0, l1, y0, rfl, e0, hr⟩ := hq; obtain rfl := uvipfour_Head_eq _ _ e0
  have hq := dEnd.elim hr; clear hr; obtain ⟨rfl, rfl, hr⟩ := hq
  have hq := ofG.elim hr; clear hr; obtain ⟨x, h, rfl⟩ := hq
  obtain rfl := kinds_nil hc
  exact ⟨_, rfl, leads22 hS _ x h⟩
def law05_of : ipfour_Head → Option ipfour_Head := law05_ofF
theorem lift22 : SumOK Try.prog 22 (s22 law05_of) := ok22 (SumsOK.of_tab trivial)
end Go.Vm.Code

namespace Go.Vm.Code
open Go Go.Vm Go.Proofs
set_option maxRecDepth 100000
set_option maxHeartbeats 4000000
set_option linter.unusedVariables false

/-! cloakroom/cloakroomlaw05.back -/
def law05_backF (ha0 : ipfour_Head) : Option ipfour_Head :=
  some (ha0)
def rx26 (x : ipfour_Head) : SRes := ⟨.agg ⟨[.int .i64 x.Class, .int .i64 x.Mark, .bool x.Whole, .int .i64 x.TTL, .int .i64 x.Proto, .bool x.Src.V6, .int .u64 x.Src.Hi, .int .u64 x.Src.Lo, .bool x.Dst.V6, .int .u64 x.Dst.Hi, .int .u64 x.Dst.Lo, .string ⟨⟨x.Options⟩⟩]⟩, [], []⟩
def r26 (g : ipfour_Head → Option ipfour_Head) : Dec := dV uvipfour_Head fun (y0 : ipfour_Head) => dEnd (ofG (g y0) rx26)
theorem r26_c {g : ipfour_Head → Option ipfour_Head} {y0 : ipfour_Head} {x : ipfour_Head} (hx : g y0 = some x) : r26 g [.agg ⟨[.int .i64 y0.Class, .int .i64 y0.Mark, .bool y0.Whole, .int .i64 y0.TTL, .int .i64 y0.Proto, .bool y0.Src.V6, .int .u64 y0.Src.Hi, .int .u64 y0.Src.Lo, .bool y0.Dst.V6, .int .u64 y0.Dst.Hi, .int .u64 y0.Dst.Lo, .string ⟨⟨y0.Options⟩⟩]⟩] [] = some (rx26 x) := (dV_eq (uvipfour_Head_c _)).trans (ofG_eq hx)
def s26 (g : ipfour_Head → Option ipfour_Head) : Summ := ⟨[.v], r26 g⟩
theorem r26_eq {g : ipfour_Head → Option ipfour_Head} {y0 : ipfour_Head} {x : ipfour_Head} (hx : g y0 = some x) : (s26 g).run [.agg ⟨[.int .i64 y0.Class, .int .i64 y0.Mark, .bool y0.Whole, .int .i64 y0.TTL, .int .i64 y0.Proto, .bool y0.Src.V6, .int .u64 y0.Src.Hi, .int .u64 y0.Src.Lo, .bool y0.Dst.V6, .int .u64 y0.Dst.Hi, .int .u64 y0.Dst.Lo, .string ⟨⟨y0.Options⟩⟩]⟩] [] = some (rx26 x) := r26_c hx
abbrev sums26 : List (Nat × Summ) := []
theorem leads26 (hS : SumsOK Try.prog (aget (sums26))) (ha0 : ipfour_Head) (res : ipfour_Head) (h : law05_backF ha0 = some res) :
    Leads Try.prog 26 0 ⟨⟨26, 20, [(0, .agg ⟨[.int .i64 ha0.Class, .int .i64 ha0.Mark, .bool ha0.Whole, .int .i64 ha0.TTL, .int .i64 ha0.Proto, .bool ha0.Src.V6, .int .u64 ha0.Src.Hi, .int .u64 ha0.Src.Lo, .bool ha0.Dst.V6, .int .u64 ha0.Dst.Hi, .int .u64 ha0.Dst.Lo, .string ⟨⟨ha0.Options⟩⟩]⟩)], [.code k26_3], [], false, none⟩, [], [], 0⟩ (fun v H _ => Res 0 (rx26 res) v H) := by
  unfold law05_backF at h
  refine ev_ok tab_ok hS true 3000 ?_
  conv => whnf
  all_goals (cases h)
  all_goals exact Res.of [] rfl nw_0 (by decide) js_0 wr_0
theorem ok26 (hS : SumsOK Try.prog (aget (sums26))) : SumOK Try.prog 26 (s26 (law05_backF)) := by
  refine SumOK.of_leads tab_ok (fun ar os r ha hr => ?_) ⟨Try.f26, rfl, by decide, rfl⟩
  replace hr : r26 (law05_backF) ar (conts os) = some r := hr
  unfold r26 at hr
  generalize hc : conts os = C at hr
  have hq := dV.elim hr; clear hr; obtain ⟨v0, l1, y0, rfl, e0, hr⟩ := hq; obtain rfl := uvipfour_Head_eq _ _ e0
  have hq := dEnd.elim hr; clear hr; obtain ⟨rfl, rfl, hr⟩ := hq
  have hq := ofG.elim hr; clear hr; obtain ⟨x, h, rfl⟩ := hq
  obtain rfl := kinds_nil hc
  exact ⟨_, rfl, leads26 hS _ x h⟩
def law05_back : ipfour_Head → Option ipfour_Head := law05_backF
theorem lift26 : SumOK Try.prog 26 (s26 law05_back) := ok26 (SumsOK.of_tab trivial)
end Go.Vm.Code

namespace Go.Vm.Code
open Go Go.Vm Go.Proofs
set_option maxRecDepth 100000
set_option maxHeartbeats 4000000
set_option linter.unusedVariables false

/-! cloakroom/cloakroomlaw05.IpfourTells -/
def law05_IpfourTellsF (R05_Get : (List UInt8) → Option (ipfour_Head × (List UInt8) × Int)) (R05_Pseudo : api_Addr → api_Addr → Int → Int → Option (List UInt8)) (R05_Put : ipfour_Head → (List UInt8) → Option ((List UInt8) × Int)) (ipfour_Get : (List UInt8) → Option (ipfour_Head × (List UInt8) × Int)) (ipfour_Pseudo : api_Addr → api_Addr → Int → Int → Option (List UInt8)) (ipfour_Put : ipfour_Head → (List UInt8) → Option ((List UInt8) × Int)) (law05_awake : Option Bool) (law05_back : ipfour_Head → Option ipfour_Head) (law05_of : ipfour_Head → Option ipfour_Head) (ha0 : ipfour_Head) (payload : List UInt8) (s : List UInt8) (n : Int) : Option Bool :=
  cond (decide ((ha0.Options.length : Int) > 60))
    (
    (law05_awake).bind fun a =>
    some (a))
    (
    cond (decide ((payload.length : Int) > 200))
      (
      (law05_awake).bind fun a1 =>
      some (a1))
      (
      cond (decide ((s.length : Int) > 200))
        (
        (law05_awake).bind fun a2 =>
        some (a2))
        (
        (law05_of ha0).bind fun xo =>
        (ipfour_Put xo payload).bind fun p =>
        (R05_Put ha0 payload).bind fun p1 =>
        (ipfour_Get s).bind fun xg =>
        (R05_Get s).bind fun xg1 =>
        cond (p.1 == p1.1)
          (
          cond (p.2 == p1.2)
            (
            (law05_back xg.1).bind fun b =>
            let t := (b.Class == xg1.1.Class) && ((b.Mark == xg1.1.Mark) && ((b.Whole == xg1.1.Whole) && ((b.TTL == xg1.1.TTL) && ((b.Proto == xg1.1.Proto) && ((b.Src.V6 == xg1.1.Src.V6) && ((b.Src.Hi == xg1.1.Src.Hi) && ((b.Src.Lo == xg1.1.Src.Lo) && ((b.Dst.V6 == xg1.1.Dst.V6) && ((b.Dst.Hi == xg1.1.Dst.Hi) && ((b.Dst.Lo == xg1.1.Dst.Lo) && ((b.Options == xg1.1.Options) && true)))))))))))
            cond (t)
              (
              cond (xg.2.1 == xg1.2.1)
                (
                cond (xg.2.2 == xg1.2.2)
                  (
                  (ipfour_Pseudo ha0.Src ha0.Dst ha0.Proto n).bind fun p2 =>
                  (R05_Pseudo ha0.Src ha0.Dst ha0.Proto n).bind fun p3 =>
                  cond (p2 == p3)
                    (
                    (law05_awake).bind fun a3 =>
                    some (a3))
                    (
                    some (false)))
                  (
                  some (false)))
                (
                some (false)))
              (
              some (false)))
            (
            some (false)))
          (
          some (false)))))
def rx5 (x : Bool) : SRes := ⟨.bool x, [], []⟩
def r5 (g : ipfour_Head → (List UInt8) → (List UInt8) → Int → Option Bool) : Dec := dV uvipfour_Head fun (y0 : ipfour_Head) => dV asS fun (y1 : List UInt8) => dV asS fun (y2 : List UInt8) => dV (asI .i64) fun (y3 : Int) => dEnd (ofG (g y0 y1 y2 y3) rx5)
theorem r5_c {g : ipfour_Head → (List UInt8) → (List UInt8) → Int → Option Bool} {y0 : ipfour_Head} {y1 : List UInt8} {y2 : List UInt8} {y3 : Int} {x : Bool} (hx : g y0 y1 y2 y3 = some x) : r5 g [.agg ⟨[.int .i64 y0.Class, .int .i64 y0.Mark, .bool y0.Whole, .int .i64 y0.TTL, .int .i64 y0.Proto, .bool y0.Src.V6, .int .u64 y0.Src.Hi, .int .u64 y0.Src.Lo, .bool y0.Dst.V6, .int .u64 y0.Dst.Hi, .int .u64 y0.Dst.Lo, .string ⟨⟨y0.Options⟩⟩]⟩, .string ⟨⟨y1⟩⟩, .string ⟨⟨y2⟩⟩, .int .i64 y3] [] = some (rx5 x) := (dV_eq (uvipfour_Head_c _)).trans ((dV_eq (asS_c)).trans ((dV_eq (asS_c)).trans ((dV_eq (asI_c _)).trans (ofG_eq hx))))
def s5 (g : ipfour_Head → (List UInt8) → (List UInt8) → Int → Option Bool) : Summ := ⟨[.v, .v, .v, .v], r5 g⟩
theorem r5_eq {g : ipfour_Head → (List UInt8) → (List UInt8) → Int → Option Bool} {y0 : ipfour_Head} {y1 : List UInt8} {y2 : List UInt8} {y3 : Int} {x : Bool} (hx : g y0 y1 y2 y3 = some x) : (s5 g).run [.agg ⟨[.int .i64 y0.Class, .int .i64 y0.Mark, .bool y0.Whole, .int .i64 y0.TTL, .int .i64 y0.Proto, .bool y0.Src.V6, .int .u64 y0.Src.Hi, .int .u64 y0.Src.Lo, .bool y0.Dst.V6, .int .u64 y0.Dst.Hi, .int .u64 y0.Dst.Lo, .string ⟨⟨y0.Options⟩⟩]⟩, .string ⟨⟨y1⟩⟩, .string ⟨⟨y2⟩⟩, .int .i64 y3] [] = some (rx5 x) := r5_c hx
abbrev sums5 (R05_Get : (List UInt8) → Option (ipfour_Head × (List UInt8) × Int)) (R05_Pseudo : api_Addr → api_Addr → Int → Int → Option (List UInt8)) (R05_Put : ipfour_Head → (List UInt8) → Option ((List UInt8) × Int)) (ipfour_Get : (List UInt8) → Option (ipfour_Head × (List UInt8) × Int)) (ipfour_Pseudo : api_Addr → api_Addr → Int → Int → Option (List UInt8)) (ipfour_Put : ipfour_Head → (List UInt8) → Option ((List UInt8) × Int)) (law05_awake : Option Bool) (law05_back : ipfour_Head → Option ipfour_Head) (law05_of : ipfour_Head → Option ipfour_Head) : List (Nat × Summ) := [(25, s25 R05_Get), (28, s28 R05_Pseudo), (23, s23 R05_Put), (24, s24 ipfour_Get), (27, s27 ipfour_Pseudo), (21, s21 ipfour_Put), (20, s20 law05_awake), (26, s26 law05_back), (22, s22 law05_of)]
theorem leads5 (R05_Get : (List UInt8) → Option (ipfour_Head × (List UInt8) × Int)) (R05_Pseudo : api_Addr → api_Addr → Int → Int → Option (List UInt8)) (R05_Put : ipfour_Head → (List UInt8) → Option ((List UInt8) × Int)) (ipfour_Get : (List UInt8) → Option (ipfour_Head × (List UInt8) × Int)) (ipfour_Pseudo : api_Addr → api_Addr → Int → Int → Option (List UInt8)) (ipfour_Put : ipfour_Head → (List UInt8) → Option ((List UInt8) × Int)) (law05_awake : Option Bool) (law05_back : ipfour_Head → Option ipfour_Head) (law05_of : ipfour_Head → Option ipfour_Head) (hS : SumsOK Try.prog (aget (sums5 R05_Get R05_Pseudo R05_Put ipfour_Get ipfour_Pseudo ipfour_Put law05_awake law05_back law05_of))) (ha0 : ipfour_Head) (payload : List UInt8) (s : List UInt8) (n : Int) (res : Bool) (h : law05_IpfourTellsF R05_Get R05_Pseudo R05_Put ipfour_Get ipfour_Pseudo ipfour_Put law05_awake law05_back law05_of ha0 payload s n = some res) :
    Leads Try.prog 5 0 ⟨⟨5, 105, [(0, .agg ⟨[.int .i64 ha0.Class, .int .i64 ha0.Mark, .bool ha0.Whole, .int .i64 ha0.TTL, .int .i64 ha0.Proto, .bool ha0.Src.V6, .int .u64 ha0.Src.Hi, .int .u64 ha0.Src.Lo, .bool ha0.Dst.V6, .int .u64 ha0.Dst.Hi, .int .u64 ha0.Dst.Lo, .string ⟨⟨ha0.Options⟩⟩]⟩), (1, .string ⟨⟨payload⟩⟩), (2, .string ⟨⟨s⟩⟩), (3, .int .i64 n)], [.code k5_17], [], false, none⟩, [], [], 0⟩ (fun v H _ => Res 0 (rx5 res) v H) := by
  unfold law05_IpfourTellsF at h
  refine ev_ok tab_ok hS true 3000 ?_
  conv => whnf
  refine br.h h ?_ ?_ ?_
  · rfl
  · clear h; intro hb h; conv => whnf
    obtain ⟨a, hy, h2⟩ := obind.elim h; clear h; have h := h2; clear h2
    refine sumK.introF [] (sumRun_of (aqs := []) (ws := []) (n := 0) (m := 0) (t' := 1) ra_nil rfl (by rfl) (r20_eq hy) rfl rfl rfl rfl wb_nil an_nil rfl) ?_
    conv => whnf
    all_goals (cases h)
    all_goals exact Res.of [] rfl nw_0 (by decide) js_0 wr_0
  clear h; intro hb h; conv => whnf
  refine br.h h ?_ ?_ ?_
  · rfl
  · clear h; intro hb h; conv => whnf
    obtain ⟨a1, hy, h2⟩ := obind.elim h; clear h; have h := h2; clear h2
    refine sumK.introF [] (sumRun_of (aqs := []) (ws := []) (n := 0) (m := 0) (t' := 1) ra_nil rfl (by rfl) (r20_eq hy) rfl rfl rfl rfl wb_nil an_nil rfl) ?_
    conv => whnf
    all_goals (cases h)
    all_goals exact Res.of [] rfl nw_0 (by decide) js_0 wr_0
  clear h; intro hb h; conv => whnf
  refine br.h h ?_ ?_ ?_
  · rfl
  · clear h; intro hb h; conv => whnf
    obtain ⟨a2, hy, h2⟩ := obind.elim h; clear h; have h := h2; clear h2
    refine sumK.introF [] (sumRun_of (aqs := []) (ws := []) (n := 0) (m := 0) (t' := 1) ra_nil rfl (by rfl) (r20_eq hy) rfl rfl rfl rfl wb_nil an_nil rfl) ?_
    conv => whnf
    all_goals (cases h)
    all_goals exact Res.of [] rfl nw_0 (by decide) js_0 wr_0
  clear h; intro hb h; conv => whnf
  obtain ⟨xo, hy, h2⟩ := obind.elim h; clear h; have h := h2; clear h2
  refine sumK.introF [] (sumRun_of (aqs := [.agg ⟨[.int .i64 ha0.Class, .int .i64 ha0.Mark, .bool ha0.Whole, .int .i64 ha0.TTL, .int .i64 ha0.Proto, .bool ha0.Src.V6, .int .u64 ha0.Src.Hi, .int .u64 ha0.Src.Lo, .bool ha0.Dst.V6, .int .u64 ha0.Dst.Hi, .int .u64 ha0.Dst.Lo, .string ⟨⟨ha0.Options⟩⟩]⟩]) (ws := []) (n := 0) (m := 0) (t' := 1) (ra_cons rfl rfl ra_nil) rfl (by rfl) (r22_eq hy) rfl rfl rfl rfl wb_nil an_nil rfl) ?_
  conv => whnf
  obtain ⟨p, hy, h2⟩ := obind.elim h; clear h; have h := h2; clear h2
  refine sumK.introF [] (sumRun_of (aqs := [.agg ⟨[.int .i64 xo.Class, .int .i64 xo.Mark, .bool xo.Whole, .int .i64 xo.TTL, .int .i64 xo.Proto, .bool xo.Src.V6, .int .u64 xo.Src.Hi, .int .u64 xo.Src.Lo, .bool xo.Dst.V6, .int .u64 xo.Dst.Hi, .int .u64 xo.Dst.Lo, .string ⟨⟨xo.Options⟩⟩]⟩, .string ⟨⟨payload⟩⟩]) (ws := []) (n := 0) (m := 0) (t' := 1) (ra_cons rfl rfl (ra_cons rfl rfl ra_nil)) rfl (by rfl) (r21_eq hy) rfl rfl rfl rfl wb_nil an_nil rfl) ?_
  conv => whnf
  obtain ⟨p1, hy, h2⟩ := obind.elim h; clear h; have h := h2; clear h2
  refine sumK.introF [] (sumRun_of (aqs := [.agg ⟨[.int .i64 ha0.Class, .int .i64 ha0.Mark, .bool ha0.Whole, .int .i64 ha0.TTL, .int .i64 ha0.Proto, .bool ha0.Src.V6, .int .u64 ha0.Src.Hi, .int .u64 ha0.Src.Lo, .bool ha0.Dst.V6, .int .u64 ha0.Dst.Hi, .int .u64 ha0.Dst.Lo, .string ⟨⟨ha0.Options⟩⟩]⟩, .string ⟨⟨payload⟩⟩]) (ws := []) (n := 0) (m := 0) (t' := 1) (ra_cons rfl rfl (ra_cons rfl rfl ra_nil)) rfl (by rfl) (r23_eq hy) rfl rfl rfl rfl wb_nil an_nil rfl) ?_
  conv => whnf
  obtain ⟨xg, hy, h2⟩ := obind.elim h; clear h; have h := h2; clear h2
  refine sumK.introF [] (sumRun_of (aqs := [.string ⟨⟨s⟩⟩]) (ws := []) (n := 0) (m := 0) (t' := 1) (ra_cons rfl rfl ra_nil) rfl (by rfl) (r24_eq hy) rfl rfl rfl rfl wb_nil an_nil rfl) ?_
  conv => whnf
  obtain ⟨xg1, hy, h2⟩ := obind.elim h; clear h; have h := h2; clear h2
  refine sumK.introF [] (sumRun_of (aqs := [.string ⟨⟨s⟩⟩]) (ws := []) (n := 0) (m := 0) (t' := 2) (ra_cons rfl rfl ra_nil) rfl (by rfl) (r25_eq hy) rfl rfl rfl rfl wb_nil an_nil rfl) ?_
  conv => whnf
  refine br.h2 h ?_ ?_ ?_
  · rfl
  · clear h; intro hb h; conv => whnf
    all_goals (cases h)
    all_goals exact Res.of [] rfl nw_0 (by decide) js_0 wr_0
  clear h; intro hb h; conv => whnf
  refine br.h2 h ?_ ?_ ?_
  · rfl
  · clear h; intro hb h; conv => whnf
    all_goals (cases h)
    all_goals exact Res.of [] rfl nw_0 (by decide) js_0 wr_0
  clear h; intro hb h; conv => whnf
  obtain ⟨b, hy, h2⟩ := obind.elim h; clear h; have h := h2; clear h2
  refine sumK.introF [] (sumRun_of (aqs := [.agg ⟨[.int .i64 xg.1.Class, .int .i64 xg.1.Mark, .bool xg.1.Whole, .int .i64 xg.1.TTL, .int .i64 xg.1.Proto, .bool xg.1.Src.V6, .int .u64 xg.1.Src.Hi, .int .u64 xg.1.Src.Lo, .bool xg.1.Dst.V6, .int .u64 xg.1.Dst.Hi, .int .u64 xg.1.Dst.Lo, .string ⟨⟨xg.1.Options⟩⟩]⟩]) (ws := []) (n := 0) (m := 0) (t' := 13) (ra_cons rfl rfl ra_nil) rfl (by rfl) (r26_eq hy) rfl rfl rfl rfl wb_nil an_nil rfl) ?_
  conv => whnf
  let t : Bool := (b.Class == xg1.1.Class) && ((b.Mark == xg1.1.Mark) && ((b.Whole == xg1.1.Whole) && ((b.TTL == xg1.1.TTL) && ((b.Proto == xg1.1.Proto) && ((b.Src.V6 == xg1.1.Src.V6) && ((b.Src.Hi == xg1.1.Src.Hi) && ((b.Src.Lo == xg1.1.Src.Lo) && ((b.Dst.V6 == xg1.1.Dst.V6) && ((b.Dst.Hi == xg1.1.Dst.Hi) && ((b.Dst.Lo == xg1.1.Dst.Lo) && ((b.Options == xg1.1.Options) && true)))))))))))
  refine br.h2 h ?_ ?_ ?_
  · rfl
  · clear h; intro hb h; conv => whnf
    all_goals (cases h)
    all_goals exact Res.of [] rfl nw_0 (by decide) js_0 wr_0
  clear h; intro hb h; conv => whnf
  refine br.h2 h ?_ ?_ ?_
  · rfl
  · clear h; intro hb h; conv => whnf
    all_goals (cases h)
    all_goals exact Res.of [] rfl nw_0 (by decide) js_0 wr_0
  clear h; intro hb h; conv => whnf
  refine br.h2 h ?_ ?_ ?_
  · rfl
  · clear h; intro hb h; conv => whnf
    all_goals (cases h)
    all_goals exact Res.of [] rfl nw_0 (by decide) js_0 wr_0
  clear h; intro hb h; conv => whnf
  obtain ⟨p2, hy, h2⟩ := obind.elim h; clear h; have h := h2; clear h2
  refine sumK.introF [] (sumRun_of (aqs := [.agg ⟨[.bool ha0.Src.V6, .int .u64 ha0.Src.Hi, .int .u64 ha0.Src.Lo]⟩, .agg ⟨[.bool ha0.Dst.V6, .int .u64 ha0.Dst.Hi, .int .u64 ha0.Dst.Lo]⟩, .int .i64 ha0.Proto, .int .i64 n]) (ws := []) (n := 0) (m := 0) (t' := 35) (ra_cons rfl rfl (ra_cons rfl rfl (ra_cons rfl rfl (ra_cons rfl rfl ra_nil)))) rfl (by rfl) (r27_eq hy) rfl rfl rfl rfl wb_nil an_nil rfl) ?_
  conv => whnf
  obtain ⟨p3, hy, h2⟩ := obind.elim h; clear h; have h := h2; clear h2
  refine sumK.introF [] (sumRun_of (aqs := [.agg ⟨[.bool ha0.Src.V6, .int .u64 ha0.Src.Hi, .int .u64 ha0.Src.Lo]⟩, .agg ⟨[.bool ha0.Dst.V6, .int .u64 ha0.Dst.Hi, .int .u64 ha0.Dst.Lo]⟩, .int .i64 ha0.Proto, .int .i64 n]) (ws := []) (n := 0) (m := 0) (t' := 43) (ra_cons rfl rfl (ra_cons rfl rfl (ra_cons rfl rfl (ra_cons rfl rfl ra_nil)))) rfl (by rfl) (r28_eq hy) rfl rfl rfl rfl wb_nil an_nil rfl) ?_
  conv => whnf
  refine br.h2 h ?_ ?_ ?_
  · rfl
  · clear h; intro hb h; conv => whnf
    all_goals (cases h)
    all_goals exact Res.of [] rfl nw_0 (by decide) js_0 wr_0
  clear h; intro hb h; conv => whnf
  obtain ⟨a3, hy, h2⟩ := obind.elim h; clear h; have h := h2; clear h2
  refine sumK.introF [] (sumRun_of (aqs := []) (ws := []) (n := 0) (m := 0) (t' := 43) ra_nil rfl (by rfl) (r20_eq hy) rfl rfl rfl rfl wb_nil an_nil rfl) ?_
  conv => whnf
  all_goals (cases h)
  all_goals exact Res.of [] rfl nw_0 (by decide) js_0 wr_0
theorem ok5 (R05_Get : (List UInt8) → Option (ipfour_Head × (List UInt8) × Int)) (R05_Pseudo : api_Addr → api_Addr → Int → Int → Option (List UInt8)) (R05_Put : ipfour_Head → (List UInt8) → Option ((List UInt8) × Int)) (ipfour_Get : (List UInt8) → Option (ipfour_Head × (List UInt8) × Int)) (ipfour_Pseudo : api_Addr → api_Addr → Int → Int → Option (List UInt8)) (ipfour_Put : ipfour_Head → (List UInt8) → Option ((List UInt8) × Int)) (law05_awake : Option Bool) (law05_back : ipfour_Head → Option ipfour_Head) (law05_of : ipfour_Head → Option ipfour_Head) (hS : SumsOK Try.prog (aget (sums5 R05_Get R05_Pseudo R05_Put ipfour_Get ipfour_Pseudo ipfour_Put law05_awake law05_back law05_of))) : SumOK Try.prog 5 (s5 (law05_IpfourTellsF R05_Get R05_Pseudo R05_Put ipfour_Get ipfour_Pseudo ipfour_Put law05_awake law05_back law05_of)) := by
  refine SumOK.of_leads tab_ok (fun ar os r ha hr => ?_) ⟨Try.f5, rfl, by decide, rfl⟩
  replace hr : r5 (law05_IpfourTellsF R05_Get R05_Pseudo R05_Put ipfour_Get ipfour_Pseudo ipfour_Put law05_awake law05_back law05_of) ar (conts os) = some r := hr
  unfold r5 at hr
  generalize hc : conts os = C at hr
  have hq := dV.elim hr; clear hr; obtain ⟨v0, l1, y0, rfl, e0, hr⟩ := hq; obtain rfl := uvipfour_Head_eq _ _ e0
  have hq := dV.elim hr; clear hr; obtain ⟨v1, l2, y1, rfl, e1, hr⟩ := hq; obtain rfl := asS_eq _ _ e1
  have hq := dV.elim hr; clear hr; obtain ⟨v2, l3, y2, rfl, e2, hr⟩ := hq; obtain rfl := asS_eq _ _ e2
  have hq := dV.elim hr; clear hr; obtain ⟨v3, l4, y3, rfl, e3, hr⟩ := hq; obtain rfl := asI_eq _ _ _ e3
  have hq := dEnd.elim hr; clear hr; obtain ⟨rfl, rfl, hr⟩ := hq
  have hq := ofG.elim hr; clear hr; obtain ⟨x, h, rfl⟩ := hq
  obtain rfl := kinds_nil hc
  exact ⟨_, rfl, leads5 R05_Get R05_Pseudo R05_Put ipfour_Get ipfour_Pseudo ipfour_Put law05_awake law05_back law05_of hS _ _ _ _ x h⟩
def law05_IpfourTells : ipfour_Head → (List UInt8) → (List UInt8) → Int → Option Bool := law05_IpfourTellsF R05_Get R05_Pseudo R05_Put ipfour_Get ipfour_Pseudo ipfour_Put law05_awake law05_back law05_of
theorem lift5 : SumOK Try.prog 5 (s5 law05_IpfourTells) := ok5 R05_Get R05_Pseudo R05_Put ipfour_Get ipfour_Pseudo ipfour_Put law05_awake law05_back law05_of (SumsOK.of_tab ⟨lift25, lift28, lift23, lift24, lift27, lift21, lift20, lift26, lift22, trivial⟩)
end Go.Vm.Code

/- IpfourTells in plain words. -/
namespace Go.Vm.Code
open Go Go.Vm
theorem awake05 : law05_awake = some true := by decide +kernel
theorem of05 (h : ipfour_Head) : law05_of h = some h := rfl
theorem back05 (h : ipfour_Head) : law05_back h = some h := rfl
theorem ipfourTells (h : ipfour_Head) (l s : List UInt8) (n : Int) (h1 : A4 h.Src) (h2 : A4 h.Dst) : law05_IpfourTells h l s n = some true := by
  unfold law05_IpfourTells law05_IpfourTellsF
  rw [awake05]
  by_cases g1 : (h.Options.length : Int) > 60
  · rw [cond_p g1]; rfl
  rw [cond_n g1]
  by_cases g2 : (l.length : Int) > 200
  · rw [cond_p g2]; rfl
  rw [cond_n g2]
  by_cases g3 : (s.length : Int) > 200
  · rw [cond_p g3]; rfl
  rw [cond_n g3, of05, Option.bind_some, p5_eq h1 h2 (by omega) (by omega), rp5_eq h1 h2 (by omega) (by omega), g5_eq (by omega), rg5_eq (by omega), pseudoW_eq h1 h2, pseudo5W_eq h1 h2]
  simp only [Option.bind_some, back05, beq_self_eq_true, cond_true, Bool.and_self]
end Go.Vm.Code
