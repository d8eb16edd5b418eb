import Derived.Test.YtadhjooghfdloaaNRekeyPlaysd
namespace Go.Vm.Code
open Go Go.Vm Go.Proofs
set_option maxRecDepth 100000
set_option maxHeartbeats 4000000
set_option linter.unusedVariables false
def law54_awakeF (rekey_Keys_Go : rekey_Keys → Int → Option (Int × rekey_Keys)) (rekey_Keys_Key : rekey_Keys → Option (api_Key × rekey_Keys)) (rekey_Keys_Key_nil : Option api_Key) (rekey_Keys_Make : rekey_Keys → api_Tuple → Int → Option (Int × rekey_Keys)) (rekey_Keys_Old : rekey_Keys → Option (api_Key × Int × Bool × rekey_Keys)) (rekey_Keys_Open : rekey_Keys → api_Tuple → Int → Option (Int × Bool × Bool × rekey_Keys)) (rekey_Keys_Open_nil : api_Tuple → Int → Option (Int × Bool × Bool)) (rekey_Keys_Turn : rekey_Keys → Int → Option (Int × rekey_Keys)) (rekey_Keys_Turn_nil : Int → Option Int) (rekey_New : api_Key → Option rekey_Keys) : Option Bool :=
  (rekey_New (api_Key.mk 1 2)).bind fun n =>
  (rekey_Keys_Make n (api_Tuple.mk 17 (api_Addr.mk false 0 0) (api_Addr.mk false 0 0) 0 0) 7).bind fun m =>
  (rekey_Keys_Turn m.2 5).bind fun t =>
  (rekey_Keys_Go t.2 4).bind fun xg =>
  (rekey_Keys_Open xg.2 (api_Tuple.mk 17 (api_Addr.mk false 0 0) (api_Addr.mk false 0 0) 0 0) m.1).bind fun xo =>
  (rekey_Keys_Go xo.2.2.2 5).bind fun xg1 =>
  (rekey_Keys_Old xg1.2).bind fun xo1 =>
  (rekey_Keys_Open_nil (api_Tuple.mk 17 (api_Addr.mk false 0 0) (api_Addr.mk false 0 0) 0 0) m.1).bind fun n1 =>
  cond (t.1 == 0)
    (
    cond (xg.1 == 0)
      (
      cond (xo.1 == 7)
        (
        cond (xo.2.1)
          (
          cond (xo.2.2.1)
            (
            cond (xg1.1 == 0)
              (
              cond (!xo1.2.2.1)
                (
                cond (!n1.2.2)
                  (
                  (rekey_Keys_Turn_nil 1).bind fun n2 =>
                  cond (n2 == 1)
                    (
                    (rekey_Keys_Go (rekey_Keys.mk (Arr2_api_Key.mk (api_Key.mk 0 0) (api_Key.mk 0 0)) 0 0 0) 1).bind fun xg2 =>
                    cond (xg2.1 == 1)
                      (
                      (rekey_Keys_Make xg2.2 (api_Tuple.mk 17 (api_Addr.mk false 0 0) (api_Addr.mk false 0 0) 0 0) 1).bind fun m1 =>
                      cond (m1.1 == 0)
                        (
                        (rekey_Keys_Key_nil).bind fun n3 =>
                        some ((n3.A == 0) && ((n3.B == 0) && true)))
                        (
                        some (false)))
                      (
                      some (false)))
                    (
                    some (false)))
                  (
                  some (false)))
                (
                some (false)))
              (
              some (false)))
            (
            some (false)))
          (
          some (false)))
        (
        some (false)))
      (
      some (false)))
    (
    some (false))
def rx32 (x : Bool) : SRes := ⟨.bool x, [], []⟩
def r32 (g : Option Bool) : Dec := dEnd (ofG (g) rx32)
theorem r32_c {g : Option Bool} {x : Bool} (hx : g = some x) : r32 g [] [] = some (rx32 x) := ofG_eq hx
def s32 (g : Option Bool) : Summ := ⟨[], r32 g⟩
theorem r32_eq {g : Option Bool} {x : Bool} (hx : g = some x) : (s32 g).run [] [] = some (rx32 x) := r32_c hx
abbrev sums32 (rekey_Keys_Go : rekey_Keys → Int → Option (Int × rekey_Keys)) (rekey_Keys_Key : rekey_Keys → Option (api_Key × rekey_Keys)) (rekey_Keys_Key_nil : Option api_Key) (rekey_Keys_Make : rekey_Keys → api_Tuple → Int → Option (Int × rekey_Keys)) (rekey_Keys_Old : rekey_Keys → Option (api_Key × Int × Bool × rekey_Keys)) (rekey_Keys_Open : rekey_Keys → api_Tuple → Int → Option (Int × Bool × Bool × rekey_Keys)) (rekey_Keys_Open_nil : api_Tuple → Int → Option (Int × Bool × Bool)) (rekey_Keys_Turn : rekey_Keys → Int → Option (Int × rekey_Keys)) (rekey_Keys_Turn_nil : Int → Option Int) (rekey_New : api_Key → Option rekey_Keys) : List (Nat × Summ) := [(36, s36 rekey_Keys_Go), (43, s43 rekey_Keys_Key rekey_Keys_Key_nil), (39, s39 rekey_Keys_Make), (42, s42 rekey_Keys_Old), (40, s40 rekey_Keys_Open rekey_Keys_Open_nil), (34, s34 rekey_Keys_Turn rekey_Keys_Turn_nil), (33, s33 rekey_New)]
theorem leads32 (rekey_Keys_Go : rekey_Keys → Int → Option (Int × rekey_Keys)) (rekey_Keys_Key : rekey_Keys → Option (api_Key × rekey_Keys)) (rekey_Keys_Key_nil : Option api_Key) (rekey_Keys_Make : rekey_Keys → api_Tuple → Int → Option (Int × rekey_Keys)) (rekey_Keys_Old : rekey_Keys → Option (api_Key × Int × Bool × rekey_Keys)) (rekey_Keys_Open : rekey_Keys → api_Tuple → Int → Option (Int × Bool × Bool × rekey_Keys)) (rekey_Keys_Open_nil : api_Tuple → Int → Option (Int × Bool × Bool)) (rekey_Keys_Turn : rekey_Keys → Int → Option (Int × rekey_Keys)) (rekey_Keys_Turn_nil : Int → Option Int) (rekey_New : api_Key → Option rekey_Keys) (hS : SumsOK Try.prog (aget (sums32 rekey_Keys_Go rekey_Keys_Key rekey_Keys_Key_nil rekey_Keys_Make rekey_Keys_Old rekey_Keys_Open rekey_Keys_Open_nil rekey_Keys_Turn rekey_Keys_Turn_nil rekey_New))) (res : Bool) (h : law54_awakeF rekey_Keys_Go rekey_Keys_Key rekey_Keys_Key_nil rekey_Keys_Make rekey_Keys_Old rekey_Keys_Open rekey_Keys_Open_nil rekey_Keys_Turn rekey_Keys_Turn_nil rekey_New = some res) :
    Leads Try.prog 32 0 ⟨⟨32, 104, [], [.code k32_25], [], false, none⟩, [], [], 0⟩ (fun v H _ => Res 0 (rx32 res) v H) := by
  unfold law54_awakeF at h
  refine ev_ok tab_ok hS true 3000 ?_
  conv => whnf
  replace h := obind.elim h; obtain ⟨n, hy, h⟩ := h
  refine sumK.introF [0] (sumRun_of (aqs := [.agg ⟨[.int .u64 1, .int .u64 2]⟩]) (ws := []) (n := 1) (m := 0) (t' := 1) (ra_cons rfl rfl ra_nil) rfl (by rfl) (r33_eq hy) rfl rfl rfl rfl wb_nil (an_cons (rfl) an_nil) rfl) ?_
  conv => whnf
  replace h := obind.elim h; obtain ⟨m, hy, h⟩ := h
  refine sumK.introF [0] (sumRun_of (aqs := [.pointer (some ⟨0, 0, none⟩), .agg ⟨[.int .i64 17, .bool false, .int .u64 0, .int .u64 0, .bool false, .int .u64 0, .int .u64 0, .int .i64 0, .int .i64 0]⟩, .int .i64 7]) (ws := [.win 0 0 7 true]) (n := 0) (m := 0) (t' := 2) (ra_cons rfl rfl (ra_cons rfl rfl (ra_cons rfl rfl ra_nil))) rfl (by rfl) (r39_eq hy) rfl rfl rfl rfl (wb_win rfl rfl rfl ⟨rfl, Nat.le_of_ble_eq_true rfl⟩ rfl rfl wb_nil) an_nil rfl) ?_
  conv => whnf
  replace h := obind.elim h; obtain ⟨t, hy, h⟩ := h
  refine sumK.introF [0] (sumRun_of (aqs := [.pointer (some ⟨0, 0, none⟩), .int .i64 5]) (ws := [.win 0 0 7 true]) (n := 0) (m := 0) (t' := 2) (ra_cons rfl rfl (ra_cons rfl rfl ra_nil)) rfl (by rfl) (r34_eq hy) rfl rfl rfl rfl (wb_win rfl rfl rfl ⟨rfl, Nat.le_of_ble_eq_true rfl⟩ rfl rfl wb_nil) an_nil rfl) ?_
  conv => whnf
  replace h := obind.elim h; obtain ⟨xg, hy, h⟩ := h
  refine sumK.introF [0] (sumRun_of (aqs := [.pointer (some ⟨0, 0, none⟩), .int .i64 4]) (ws := [.win 0 0 7 true]) (n := 0) (m := 0) (t' := 2) (ra_cons rfl rfl (ra_cons rfl rfl ra_nil)) rfl (by rfl) (r36_eq hy) rfl rfl rfl rfl (wb_win rfl rfl rfl ⟨rfl, Nat.le_of_ble_eq_true rfl⟩ rfl rfl wb_nil) an_nil rfl) ?_
  conv => whnf
  replace h := obind.elim h; obtain ⟨xo, hy, h⟩ := h
  refine sumK.introF [0] (sumRun_of (aqs := [.pointer (some ⟨0, 0, none⟩), .agg ⟨[.int .i64 17, .bool false, .int .u64 0, .int .u64 0, .bool false, .int .u64 0, .int .u64 0, .int .i64 0, .int .i64 0]⟩, .int .u64 m.1]) (ws := [.win 0 0 7 true]) (n := 0) (m := 0) (t' := 2) (ra_cons rfl rfl (ra_cons rfl rfl (ra_cons rfl rfl ra_nil))) rfl (by rfl) (r40_eq hy) rfl rfl rfl rfl (wb_win rfl rfl rfl ⟨rfl, Nat.le_of_ble_eq_true rfl⟩ rfl rfl wb_nil) an_nil rfl) ?_
  conv => whnf
  replace h := obind.elim h; obtain ⟨xg1, hy, h⟩ := h
  refine sumK.introF [0] (sumRun_of (aqs := [.pointer (some ⟨0, 0, none⟩), .int .i64 5]) (ws := [.win 0 0 7 true]) (n := 0) (m := 0) (t' := 2) (ra_cons rfl rfl (ra_cons rfl rfl ra_nil)) rfl (by rfl) (r36_eq hy) rfl rfl rfl rfl (wb_win rfl rfl rfl ⟨rfl, Nat.le_of_ble_eq_true rfl⟩ rfl rfl wb_nil) an_nil rfl) ?_
  conv => whnf
  replace h := obind.elim h; obtain ⟨xo1, hy, h⟩ := h
  refine sumK.introF [0] (sumRun_of (aqs := [.pointer (some ⟨0, 0, none⟩)]) (ws := [.win 0 0 7 true]) (n := 0) (m := 0) (t' := 2) (ra_cons rfl rfl ra_nil) rfl (by rfl) (r42_eq hy) rfl rfl rfl rfl (wb_win rfl rfl rfl ⟨rfl, Nat.le_of_ble_eq_true rfl⟩ rfl rfl wb_nil) an_nil rfl) ?_
  conv => whnf
  replace h := obind.elim h; obtain ⟨n1, hy, h⟩ := h
  refine sumK.introF [] (sumRun_of (aqs := [.pointer none, .agg ⟨[.int .i64 17, .bool false, .int .u64 0, .int .u64 0, .bool false, .int .u64 0, .int .u64 0, .int .i64 0, .int .i64 0]⟩, .int .u64 m.1]) (ws := [.no]) (n := 0) (m := 0) (t' := 4) (ra_cons rfl rfl (ra_cons rfl rfl (ra_cons rfl rfl ra_nil))) rfl (by rfl) (r40n_eq hy) rfl rfl rfl rfl (wb_skip rfl wb_nil) an_nil rfl) ?_
  conv => whnf
  refine br.h2 h ?_ ?_ ?_
  · rfl
  · clear h; intro hb h; conv => whnf
    all_goals (cases h; exact Res.z rfl rfl rfl)
  clear h; intro hb h; conv => whnf
  refine br.h2 h ?_ ?_ ?_
  · rfl
  · clear h; intro hb h; conv => whnf
    all_goals (cases h; exact Res.z rfl rfl rfl)
  clear h; intro hb h; conv => whnf
  refine br.h2 h ?_ ?_ ?_
  · rfl
  · clear h; intro hb h; conv => whnf
    all_goals (cases h; exact Res.z rfl rfl rfl)
  clear h; intro hb h; conv => whnf
  refine br.h2 h ?_ ?_ ?_
  · rfl
  · clear h; intro hb h; conv => whnf
    all_goals (cases h; exact Res.z rfl rfl rfl)
  clear h; intro hb h; conv => whnf
  refine br.h2 h ?_ ?_ ?_
  · rfl
  · clear h; intro hb h; conv => whnf
    all_goals (cases h; exact Res.z rfl rfl rfl)
  clear h; intro hb h; conv => whnf
  refine br.h2 h ?_ ?_ ?_
  · rfl
  · clear h; intro hb h; conv => whnf
    all_goals (cases h; exact Res.z rfl rfl rfl)
  clear h; intro hb h; conv => whnf
  refine br.h2 h ?_ ?_ ?_
  · rfl
  · clear h; intro hb h; conv => whnf
    all_goals (cases h; exact Res.z rfl rfl rfl)
  clear h; intro hb h; conv => whnf
  refine br.h2 h ?_ ?_ ?_
  · rfl
  · clear h; intro hb h; conv => whnf
    all_goals (cases h; exact Res.z rfl rfl rfl)
  clear h; intro hb h; conv => whnf
  replace h := obind.elim h; obtain ⟨n2, hy, h⟩ := h
  refine sumK.introF [] (sumRun_of (aqs := [.pointer none, .int .i64 1]) (ws := [.no]) (n := 0) (m := 0) (t' := 4) (ra_cons rfl rfl (ra_cons rfl rfl ra_nil)) rfl (by rfl) (r34n_eq hy) rfl rfl rfl rfl (wb_skip rfl wb_nil) an_nil rfl) ?_
  conv => whnf
  refine br.h2 h ?_ ?_ ?_
  · rfl
  · clear h; intro hb h; conv => whnf
    all_goals (cases h; exact Res.z rfl rfl rfl)
  clear h; intro hb h; conv => whnf
  replace h := obind.elim h; obtain ⟨xg2, hy, h⟩ := h
  refine sumK.introF [3] (sumRun_of (aqs := [.pointer (some ⟨0, 0, none⟩), .int .i64 1]) (ws := [.win 3 0 7 true]) (n := 0) (m := 0) (t' := 4) (ra_cons rfl rfl (ra_cons rfl rfl ra_nil)) rfl (by rfl) (r36_eq hy) rfl rfl rfl rfl (wb_win rfl rfl rfl ⟨rfl, Nat.le_of_ble_eq_true rfl⟩ rfl rfl wb_nil) an_nil rfl) ?_
  conv => whnf
  refine br.h2 h ?_ ?_ ?_
  · rfl
  · clear h; intro hb h; conv => whnf
    all_goals (cases h; exact Res.z rfl rfl rfl)
  clear h; intro hb h; conv => whnf
  replace h := obind.elim h; obtain ⟨m1, hy, h⟩ := h
  refine sumK.introF [3] (sumRun_of (aqs := [.pointer (some ⟨0, 0, none⟩), .agg ⟨[.int .i64 17, .bool false, .int .u64 0, .int .u64 0, .bool false, .int .u64 0, .int .u64 0, .int .i64 0, .int .i64 0]⟩, .int .i64 1]) (ws := [.win 3 0 7 true]) (n := 0) (m := 0) (t' := 4) (ra_cons rfl rfl (ra_cons rfl rfl (ra_cons rfl rfl ra_nil))) rfl (by rfl) (r39_eq hy) rfl rfl rfl rfl (wb_win rfl rfl rfl ⟨rfl, Nat.le_of_ble_eq_true rfl⟩ rfl rfl wb_nil) an_nil rfl) ?_
  conv => whnf
  refine br.h2 h ?_ ?_ ?_
  · rfl
  · clear h; intro hb h; conv => whnf
    all_goals (cases h; exact Res.z rfl rfl rfl)
  clear h; intro hb h; conv => whnf
  replace h := obind.elim h; obtain ⟨n3, hy, h⟩ := h
  refine sumK.introF [] (sumRun_of (aqs := [.pointer none]) (ws := [.no]) (n := 0) (m := 0) (t' := 4) (ra_cons rfl rfl ra_nil) rfl (by rfl) (r43n_eq hy) rfl rfl rfl rfl (wb_skip rfl wb_nil) an_nil rfl) ?_
  conv => whnf
  all_goals (cases h; exact Res.z rfl rfl rfl)
theorem ok32 (rekey_Keys_Go : rekey_Keys → Int → Option (Int × rekey_Keys)) (rekey_Keys_Key : rekey_Keys → Option (api_Key × rekey_Keys)) (rekey_Keys_Key_nil : Option api_Key) (rekey_Keys_Make : rekey_Keys → api_Tuple → Int → Option (Int × rekey_Keys)) (rekey_Keys_Old : rekey_Keys → Option (api_Key × Int × Bool × rekey_Keys)) (rekey_Keys_Open : rekey_Keys → api_Tuple → Int → Option (Int × Bool × Bool × rekey_Keys)) (rekey_Keys_Open_nil : api_Tuple → Int → Option (Int × Bool × Bool)) (rekey_Keys_Turn : rekey_Keys → Int → Option (Int × rekey_Keys)) (rekey_Keys_Turn_nil : Int → Option Int) (rekey_New : api_Key → Option rekey_Keys) (hS : SumsOK Try.prog (aget (sums32 rekey_Keys_Go rekey_Keys_Key rekey_Keys_Key_nil rekey_Keys_Make rekey_Keys_Old rekey_Keys_Open rekey_Keys_Open_nil rekey_Keys_Turn rekey_Keys_Turn_nil rekey_New))) : SumOK Try.prog 32 (s32 (law54_awakeF rekey_Keys_Go rekey_Keys_Key rekey_Keys_Key_nil rekey_Keys_Make rekey_Keys_Old rekey_Keys_Open rekey_Keys_Open_nil rekey_Keys_Turn rekey_Keys_Turn_nil rekey_New)) := by
  refine SumOK.of_leads tab_ok (fun ar os r ha hr => ?_) ⟨Try.f32, rfl, by decide, rfl⟩
  replace hr : r32 (law54_awakeF rekey_Keys_Go rekey_Keys_Key rekey_Keys_Key_nil rekey_Keys_Make rekey_Keys_Old rekey_Keys_Open rekey_Keys_Open_nil rekey_Keys_Turn rekey_Keys_Turn_nil rekey_New) ar (conts os) = some r := hr
  unfold r32 at hr
  generalize hc : conts os = C at hr
  replace hr := dFin hr; obtain ⟨rfl, rfl, x, h, rfl⟩ := hr
  obtain rfl := kinds_nil hc
  exact ⟨_, rfl, leads32 rekey_Keys_Go rekey_Keys_Key rekey_Keys_Key_nil rekey_Keys_Make rekey_Keys_Old rekey_Keys_Open rekey_Keys_Open_nil rekey_Keys_Turn rekey_Keys_Turn_nil rekey_New hS x h⟩
def law54_awake : Option Bool := law54_awakeF rekey_Keys_Go rekey_Keys_Key rekey_Keys_Key_nil rekey_Keys_Make rekey_Keys_Old rekey_Keys_Open rekey_Keys_Open_nil rekey_Keys_Turn rekey_Keys_Turn_nil rekey_New
theorem lift32 : SumOK Try.prog 32 (s32 law54_awake) := ok32 rekey_Keys_Go rekey_Keys_Key rekey_Keys_Key_nil rekey_Keys_Make rekey_Keys_Old rekey_Keys_Open rekey_Keys_Open_nil rekey_Keys_Turn rekey_Keys_Turn_nil rekey_New (SumsOK.of_tab ⟨lift36, lift43, lift39, lift42, lift40, lift34, lift33, trivial⟩)
def R54_NextF (R12_Hash : api_Key → (List UInt8) → Option Int) (k : api_Key) : Option api_Key :=
  (R12_Hash k [1]).bind fun xh =>
  (R12_Hash k [2]).bind fun xh1 =>
  some (api_Key.mk xh xh1)
def rx45 (x : api_Key) : SRes := ⟨.agg ⟨[.int .u64 x.A, .int .u64 x.B]⟩, [], []⟩
def r45 (g : api_Key → Option api_Key) : Dec := dV uvapi_Key fun (y0 : api_Key) => dEnd (ofG (g y0) rx45)
theorem r45_c {g : api_Key → Option api_Key} {y0 : api_Key} {x : api_Key} (hx : g y0 = some x) : r45 g [.agg ⟨[.int .u64 y0.A, .int .u64 y0.B]⟩] [] = some (rx45 x) := (dV_eq (uvapi_Key_c _)).trans (ofG_eq hx)
def s45 (g : api_Key → Option api_Key) : Summ := ⟨[.v], r45 g⟩
theorem r45_eq {g : api_Key → Option api_Key} {y0 : api_Key} {x : api_Key} (hx : g y0 = some x) : (s45 g).run [.agg ⟨[.int .u64 y0.A, .int .u64 y0.B]⟩] [] = some (rx45 x) := r45_c hx
abbrev sums45 (R12_Hash : api_Key → (List UInt8) → Option Int) : List (Nat × Summ) := [(95, s95 R12_Hash)]
theorem leads45 (R12_Hash : api_Key → (List UInt8) → Option Int) (hS : SumsOK Try.prog (aget (sums45 R12_Hash))) (k : api_Key) (res : api_Key) (h : R54_NextF R12_Hash k = some res) :
    Leads Try.prog 45 0 ⟨⟨45, 8, [(0, .agg ⟨[.int .u64 k.A, .int .u64 k.B]⟩)], [.code k45_3], [], false, none⟩, [], [], 0⟩ (fun v H _ => Res 0 (rx45 res) v H) := by
  unfold R54_NextF at h
  refine ev_ok tab_ok hS true 3000 ?_
  conv => whnf
  replace h := obind.elim h; obtain ⟨xh, hy, h⟩ := h
  refine sumK.q rfl rfl (r95_eq hy) rfl rfl rfl ?_
  conv => whnf
  replace h := obind.elim h; obtain ⟨xh1, hy, h⟩ := h
  refine sumK.q rfl rfl (r95_eq hy) rfl rfl rfl ?_
  conv => whnf
  all_goals (cases h; exact Res.z rfl rfl rfl)
theorem ok45 (R12_Hash : api_Key → (List UInt8) → Option Int) (hS : SumsOK Try.prog (aget (sums45 R12_Hash))) : SumOK Try.prog 45 (s45 (R54_NextF R12_Hash)) := by
  refine SumOK.of_leads tab_ok (fun ar os r ha hr => ?_) ⟨Try.f45, rfl, by decide, rfl⟩
  replace hr : r45 (R54_NextF R12_Hash) ar (conts os) = some r := hr
  unfold r45 at hr
  generalize hc : conts os = C at hr
  replace hr := dV.elim hr; obtain ⟨v0, l1, y0, rfl, e0, hr⟩ := hr; obtain rfl := uvapi_Key_eq _ _ e0
  replace hr := dFin hr; obtain ⟨rfl, rfl, x, h, rfl⟩ := hr
  obtain rfl := kinds_nil hc
  exact ⟨_, rfl, leads45 R12_Hash hS _ x h⟩
def R54_Next : api_Key → Option api_Key := R54_NextF R12_Hash
theorem lift45 : SumOK Try.prog 45 (s45 R54_Next) := ok45 R12_Hash (SumsOK.of_tab ⟨lift95, trivial⟩)
def R54_Keys_TurnF (R54_Next : api_Key → Option api_Key) (ra0 : R54_Keys) (n : Int) : Option (Int × R54_Keys) :=
  cond (decide (n < 1))
    (
    some ((1, ra0)))
    (
    cond (decide (n > 1048576))
      (
      some ((1, ra0)))
      (
      cond (ra0.Has)
        (
        some ((11, ra0)))
        (
        (R54_Next ra0.New).bind fun n1 =>
        some ((0, R54_Keys.mk n1 ra0.New true (wI .i64 (ra0.Now + n)) ra0.Now)))))
def rx35 (x : Int × R54_Keys) : SRes := ⟨.int .i64 x.1, [], [some [.int .u64 x.2.New.A, .int .u64 x.2.New.B, .int .u64 x.2.Old.A, .int .u64 x.2.Old.B, .bool x.2.Has, .int .i64 x.2.Until, .int .i64 x.2.Now]]⟩
def r35 (g : R54_Keys → Int → Option (Int × R54_Keys)) : Dec := dPt 0 unR54_Keys fun (y0 : R54_Keys) => dV (asI .i64) fun (y1 : Int) => dEnd (ofG (g y0 y1) rx35)
theorem r35_c {g : R54_Keys → Int → Option (Int × R54_Keys)} {y0 : R54_Keys} {y1 : Int} {x : Int × R54_Keys} (hx : g y0 y1 = some x) : r35 g [.pointer (some ⟨0, 0, none⟩), .int .i64 y1] [some [.int .u64 y0.New.A, .int .u64 y0.New.B, .int .u64 y0.Old.A, .int .u64 y0.Old.B, .bool y0.Has, .int .i64 y0.Until, .int .i64 y0.Now]] = some (rx35 x) := (dPt_eq (unR54_Keys_c _)).trans ((dV_eq (asI_c _)).trans (ofG_eq hx))
def s35 (g : R54_Keys → Int → Option (Int × R54_Keys)) : Summ := ⟨[.pt 7, .v], r35 g⟩
theorem r35_eq {g : R54_Keys → Int → Option (Int × R54_Keys)} {y0 : R54_Keys} {y1 : Int} {x : Int × R54_Keys} (hx : g y0 y1 = some x) : (s35 g).run [.pointer (some ⟨0, 0, none⟩), .int .i64 y1] [some [.int .u64 y0.New.A, .int .u64 y0.New.B, .int .u64 y0.Old.A, .int .u64 y0.Old.B, .bool y0.Has, .int .i64 y0.Until, .int .i64 y0.Now]] = some (rx35 x) := r35_c hx
abbrev sums35 (R54_Next : api_Key → Option api_Key) : List (Nat × Summ) := [(45, s45 R54_Next)]
theorem leads35 (R54_Next : api_Key → Option api_Key) (hS : SumsOK Try.prog (aget (sums35 R54_Next))) (ra0 : R54_Keys) (n : Int) (res : Int × R54_Keys) (h : R54_Keys_TurnF R54_Next ra0 n = some res) :
    Leads Try.prog 35 1 ⟨⟨35, 42, [(0, .pointer (some ⟨0, 0, none⟩)), (1, .int .i64 n)], [.code k35_23], [], false, none⟩, [], [(0, .cells [.int .u64 ra0.New.A, .int .u64 ra0.New.B, .int .u64 ra0.Old.A, .int .u64 ra0.Old.B, .bool ra0.Has, .int .i64 ra0.Until, .int .i64 ra0.Now])], 1⟩ (fun v H _ => Res 1 (rx35 res) v H) := by
  unfold R54_Keys_TurnF at h
  refine ev_ok tab_ok hS true 3000 ?_
  conv => whnf
  refine br.h h ?_ ?_ ?_
  · rfl
  · clear h; intro hb h; conv => whnf
    all_goals (cases h)
    all_goals exact Res.of [] rfl nw_0 (by decide) js_0 (wr_s (rfl) (hs_cells rfl) wr_0)
  clear h; intro hb h; conv => whnf
  refine br.h h ?_ ?_ ?_
  · rfl
  · clear h; intro hb h; conv => whnf
    all_goals (cases h)
    all_goals exact Res.of [] rfl nw_0 (by decide) js_0 (wr_s (rfl) (hs_cells rfl) wr_0)
  clear h; intro hb h; conv => whnf
  refine br.h h ?_ ?_ ?_
  · rfl
  · clear h; intro hb h; conv => whnf
    all_goals (cases h)
    all_goals exact Res.of [] rfl nw_0 (by decide) js_0 (wr_s (rfl) (hs_cells rfl) wr_0)
  clear h; intro hb h; conv => whnf
  replace h := obind.elim h; obtain ⟨n1, hy, h⟩ := h
  refine sumK.q rfl rfl (r45_eq hy) rfl rfl rfl ?_
  conv => whnf
  all_goals (cases h)
  all_goals exact Res.of [] rfl nw_0 (by decide) js_0 (wr_s (rfl) (hs_cells rfl) wr_0)
theorem ok35 (R54_Next : api_Key → Option api_Key) (hS : SumsOK Try.prog (aget (sums35 R54_Next))) : SumOK Try.prog 35 (s35 (R54_Keys_TurnF R54_Next)) := by
  refine SumOK.of_leads tab_ok (fun ar os r ha hr => ?_) ⟨Try.f35, rfl, by decide, rfl⟩
  replace hr : r35 (R54_Keys_TurnF R54_Next) ar (conts os) = some r := hr
  unfold r35 at hr
  generalize hc : conts os = C at hr
  have hq := dPt.elim hr; clear hr; obtain ⟨c0, l1, C, y0, rfl, rfl, e0, hr⟩ := hq; obtain rfl := unR54_Keys_eq _ _ e0
  replace hr := dV.elim hr; obtain ⟨v1, l2, y1, rfl, e1, hr⟩ := hr; obtain rfl := asI_eq _ _ _ e1
  replace hr := dFin hr; obtain ⟨rfl, rfl, x, h, rfl⟩ := hr
  obtain ⟨os, rfl, ha, hc⟩ := kinds_some ha hc
  obtain rfl := kinds_nil hc
  exact ⟨_, rfl, leads35 R54_Next hS _ _ x h⟩
def R54_Keys_Turn : R54_Keys → Int → Option (Int × R54_Keys) := R54_Keys_TurnF R54_Next
theorem lift35 : SumOK Try.prog 35 (s35 R54_Keys_Turn) := ok35 R54_Next (SumsOK.of_tab ⟨lift45, trivial⟩)
def R54_Keys_GoF (ra0 : R54_Keys) (now : Int) : Option (Int × R54_Keys) :=
  cond (decide (now < ra0.Now))
    (
    some ((15, ra0)))
    (
    cond (decide (now > 1099511627776))
      (
      some ((15, ra0)))
      (
      cond (ra0.Has)
        (
        cond (decide (ra0.Until ≤ now))
          (
          some ((0, R54_Keys.mk ra0.New (api_Key.mk 0 0) false 0 now)))
          (
          some ((0, R54_Keys.mk ra0.New ra0.Old ra0.Has ra0.Until now))))
        (
        some ((0, R54_Keys.mk ra0.New ra0.Old ra0.Has ra0.Until now)))))
def rx37 (x : Int × R54_Keys) : SRes := ⟨.int .i64 x.1, [], [some [.int .u64 x.2.New.A, .int .u64 x.2.New.B, .int .u64 x.2.Old.A, .int .u64 x.2.Old.B, .bool x.2.Has, .int .i64 x.2.Until, .int .i64 x.2.Now]]⟩
def r37 (g : R54_Keys → Int → Option (Int × R54_Keys)) : Dec := dPt 0 unR54_Keys fun (y0 : R54_Keys) => dV (asI .i64) fun (y1 : Int) => dEnd (ofG (g y0 y1) rx37)
theorem r37_c {g : R54_Keys → Int → Option (Int × R54_Keys)} {y0 : R54_Keys} {y1 : Int} {x : Int × R54_Keys} (hx : g y0 y1 = some x) : r37 g [.pointer (some ⟨0, 0, none⟩), .int .i64 y1] [some [.int .u64 y0.New.A, .int .u64 y0.New.B, .int .u64 y0.Old.A, .int .u64 y0.Old.B, .bool y0.Has, .int .i64 y0.Until, .int .i64 y0.Now]] = some (rx37 x) := (dPt_eq (unR54_Keys_c _)).trans ((dV_eq (asI_c _)).trans (ofG_eq hx))
def s37 (g : R54_Keys → Int → Option (Int × R54_Keys)) : Summ := ⟨[.pt 7, .v], r37 g⟩
theorem r37_eq {g : R54_Keys → Int → Option (Int × R54_Keys)} {y0 : R54_Keys} {y1 : Int} {x : Int × R54_Keys} (hx : g y0 y1 = some x) : (s37 g).run [.pointer (some ⟨0, 0, none⟩), .int .i64 y1] [some [.int .u64 y0.New.A, .int .u64 y0.New.B, .int .u64 y0.Old.A, .int .u64 y0.Old.B, .bool y0.Has, .int .i64 y0.Until, .int .i64 y0.Now]] = some (rx37 x) := r37_c hx
abbrev sums37 : List (Nat × Summ) := []
theorem leads37 (hS : SumsOK Try.prog (aget (sums37))) (ra0 : R54_Keys) (now : Int) (res : Int × R54_Keys) (h : R54_Keys_GoF ra0 now = some res) :
    Leads Try.prog 37 1 ⟨⟨37, 41, [(0, .pointer (some ⟨0, 0, none⟩)), (1, .int .i64 now)], [.code k37_20], [], false, none⟩, [], [(0, .cells [.int .u64 ra0.New.A, .int .u64 ra0.New.B, .int .u64 ra0.Old.A, .int .u64 ra0.Old.B, .bool ra0.Has, .int .i64 ra0.Until, .int .i64 ra0.Now])], 1⟩ (fun v H _ => Res 1 (rx37 res) v H) := by
  unfold R54_Keys_GoF at h
  refine ev_ok tab_ok hS true 3000 ?_
  conv => whnf
  refine br.h h ?_ ?_ ?_
  · rfl
  · clear h; intro hb h; conv => whnf
    all_goals (cases h)
    all_goals exact Res.of [] rfl nw_0 (by decide) js_0 (wr_s (rfl) (hs_cells rfl) wr_0)
  clear h; intro hb h; conv => whnf
  refine br.h h ?_ ?_ ?_
  · rfl
  · clear h; intro hb h; conv => whnf
    all_goals (cases h)
    all_goals exact Res.of [] rfl nw_0 (by decide) js_0 (wr_s (rfl) (hs_cells rfl) wr_0)
  clear h; intro hb h; conv => whnf
  refine br.h2 h ?_ ?_ ?_
  · rfl
  · clear h; intro hb h; conv => whnf
    all_goals (cases h)
    all_goals exact Res.of [] rfl nw_0 (by decide) js_0 (wr_s (rfl) (hs_cells rfl) wr_0)
  clear h; intro hb h; conv => whnf
  refine br.h h ?_ ?_ ?_
  · rfl
  · clear h; intro hb h; conv => whnf
    all_goals (cases h)
    all_goals exact Res.of [] rfl nw_0 (by decide) js_0 (wr_s (rfl) (hs_cells rfl) wr_0)
  clear h; intro hb h; conv => whnf
  all_goals (cases h)
  all_goals exact Res.of [] rfl nw_0 (by decide) js_0 (wr_s (rfl) (hs_cells rfl) wr_0)
theorem ok37 (hS : SumsOK Try.prog (aget (sums37))) : SumOK Try.prog 37 (s37 (R54_Keys_GoF)) := by
  refine SumOK.of_leads tab_ok (fun ar os r ha hr => ?_) ⟨Try.f37, rfl, by decide, rfl⟩
  replace hr : r37 (R54_Keys_GoF) ar (conts os) = some r := hr
  unfold r37 at hr
  generalize hc : conts os = C at hr
  have hq := dPt.elim hr; clear hr; obtain ⟨c0, l1, C, y0, rfl, rfl, e0, hr⟩ := hq; obtain rfl := unR54_Keys_eq _ _ e0
  replace hr := dV.elim hr; obtain ⟨v1, l2, y1, rfl, e1, hr⟩ := hr; obtain rfl := asI_eq _ _ _ e1
  replace hr := dFin hr; obtain ⟨rfl, rfl, x, h, rfl⟩ := hr
  obtain ⟨os, rfl, ha, hc⟩ := kinds_some ha hc
  obtain rfl := kinds_nil hc
  exact ⟨_, rfl, leads37 hS _ _ x h⟩
def R54_Keys_Go : R54_Keys → Int → Option (Int × R54_Keys) := R54_Keys_GoF
theorem lift37 : SumOK Try.prog 37 (s37 R54_Keys_Go) := ok37 (SumsOK.of_tab trivial)
def R54_Keys_OpenF (R32_Open : api_Key → api_Tuple → Int → Option (Int × Bool)) (ra0 : R54_Keys) (t : api_Tuple) (cookie : Int) : Option (Int × Bool × Bool × R54_Keys) :=
  (R32_Open ra0.New t cookie).bind fun xo =>
  cond (xo.2)
    (
    some ((xo.1, false, true, ra0)))
    (
    cond (ra0.Has)
      (
      (R32_Open ra0.Old t cookie).bind fun xo1 =>
      cond (xo1.2)
        (
        some ((xo1.1, true, true, ra0)))
        (
        some ((0, false, false, ra0))))
      (
      some ((0, false, false, ra0))))
def rx41 (x : Int × Bool × Bool × R54_Keys) : SRes := ⟨.tuple ⟨[.int .i64 x.1, .bool x.2.1, .bool x.2.2.1]⟩, [], [some [.int .u64 x.2.2.2.New.A, .int .u64 x.2.2.2.New.B, .int .u64 x.2.2.2.Old.A, .int .u64 x.2.2.2.Old.B, .bool x.2.2.2.Has, .int .i64 x.2.2.2.Until, .int .i64 x.2.2.2.Now]]⟩
def r41 (g : R54_Keys → api_Tuple → Int → Option (Int × Bool × Bool × R54_Keys)) : Dec := dPt 0 unR54_Keys fun (y0 : R54_Keys) => dV uvapi_Tuple fun (y1 : api_Tuple) => dV (asI .u64) fun (y2 : Int) => dEnd (ofG (g y0 y1 y2) rx41)
theorem r41_c {g : R54_Keys → api_Tuple → Int → Option (Int × Bool × Bool × R54_Keys)} {y0 : R54_Keys} {y1 : api_Tuple} {y2 : Int} {x : Int × Bool × Bool × R54_Keys} (hx : g y0 y1 y2 = some x) : r41 g [.pointer (some ⟨0, 0, none⟩), .agg ⟨[.int .i64 y1.Proto, .bool y1.Src.V6, .int .u64 y1.Src.Hi, .int .u64 y1.Src.Lo, .bool y1.Dst.V6, .int .u64 y1.Dst.Hi, .int .u64 y1.Dst.Lo, .int .i64 y1.SPort, .int .i64 y1.DPort]⟩, .int .u64 y2] [some [.int .u64 y0.New.A, .int .u64 y0.New.B, .int .u64 y0.Old.A, .int .u64 y0.Old.B, .bool y0.Has, .int .i64 y0.Until, .int .i64 y0.Now]] = some (rx41 x) := (dPt_eq (unR54_Keys_c _)).trans ((dV_eq (uvapi_Tuple_c _)).trans ((dV_eq (asI_c _)).trans (ofG_eq hx)))
def s41 (g : R54_Keys → api_Tuple → Int → Option (Int × Bool × Bool × R54_Keys)) : Summ := ⟨[.pt 7, .v, .v], r41 g⟩
theorem r41_eq {g : R54_Keys → api_Tuple → Int → Option (Int × Bool × Bool × R54_Keys)} {y0 : R54_Keys} {y1 : api_Tuple} {y2 : Int} {x : Int × Bool × Bool × R54_Keys} (hx : g y0 y1 y2 = some x) : (s41 g).run [.pointer (some ⟨0, 0, none⟩), .agg ⟨[.int .i64 y1.Proto, .bool y1.Src.V6, .int .u64 y1.Src.Hi, .int .u64 y1.Src.Lo, .bool y1.Dst.V6, .int .u64 y1.Dst.Hi, .int .u64 y1.Dst.Lo, .int .i64 y1.SPort, .int .i64 y1.DPort]⟩, .int .u64 y2] [some [.int .u64 y0.New.A, .int .u64 y0.New.B, .int .u64 y0.Old.A, .int .u64 y0.Old.B, .bool y0.Has, .int .i64 y0.Until, .int .i64 y0.Now]] = some (rx41 x) := r41_c hx
abbrev sums41 (R32_Open : api_Key → api_Tuple → Int → Option (Int × Bool)) : List (Nat × Summ) := [(46, s46 R32_Open)]
theorem leads41 (R32_Open : api_Key → api_Tuple → Int → Option (Int × Bool)) (hS : SumsOK Try.prog (aget (sums41 R32_Open))) (ra0 : R54_Keys) (t : api_Tuple) (cookie : Int) (res : Int × Bool × Bool × R54_Keys) (h : R54_Keys_OpenF R32_Open ra0 t cookie = some res) :
    Leads Try.prog 41 1 ⟨⟨41, 39, [(0, .pointer (some ⟨0, 0, none⟩)), (1, .agg ⟨[.int .i64 t.Proto, .bool t.Src.V6, .int .u64 t.Src.Hi, .int .u64 t.Src.Lo, .bool t.Dst.V6, .int .u64 t.Dst.Hi, .int .u64 t.Dst.Lo, .int .i64 t.SPort, .int .i64 t.DPort]⟩), (2, .int .u64 cookie)], [.code k41_22], [], false, none⟩, [], [(0, .cells [.int .u64 ra0.New.A, .int .u64 ra0.New.B, .int .u64 ra0.Old.A, .int .u64 ra0.Old.B, .bool ra0.Has, .int .i64 ra0.Until, .int .i64 ra0.Now])], 1⟩ (fun v H _ => Res 1 (rx41 res) v H) := by
  unfold R54_Keys_OpenF at h
  refine ev_ok tab_ok hS true 3000 ?_
  conv => whnf
  replace h := obind.elim h; obtain ⟨xo, hy, h⟩ := h
  refine sumK.q rfl rfl (r46_eq hy) rfl rfl rfl ?_
  conv => whnf
  refine br.h h ?_ ?_ ?_
  · rfl
  · clear h; intro hb h; conv => whnf
    all_goals (cases h)
    all_goals exact Res.of [] rfl nw_0 (by decide) js_0 (wr_s (rfl) (hs_cells rfl) wr_0)
  clear h; intro hb h; conv => whnf
  refine br.h2 h ?_ ?_ ?_
  · rfl
  · clear h; intro hb h; conv => whnf
    all_goals (cases h)
    all_goals exact Res.of [] rfl nw_0 (by decide) js_0 (wr_s (rfl) (hs_cells rfl) wr_0)
  clear h; intro hb h; conv => whnf
  replace h := obind.elim h; obtain ⟨xo1, hy, h⟩ := h
  refine sumK.q rfl rfl (r46_eq hy) rfl rfl rfl ?_
  conv => whnf
  refine br.h h ?_ ?_ ?_
  · rfl
  · clear h; intro hb h; conv => whnf
    all_goals (cases h)
    all_goals exact Res.of [] rfl nw_0 (by decide) js_0 (wr_s (rfl) (hs_cells rfl) wr_0)
  clear h; intro hb h; conv => whnf
  all_goals (cases h)
  all_goals exact Res.of [] rfl nw_0 (by decide) js_0 (wr_s (rfl) (hs_cells rfl) wr_0)
theorem ok41 (R32_Open : api_Key → api_Tuple → Int → Option (Int × Bool)) (hS : SumsOK Try.prog (aget (sums41 R32_Open))) : SumOK Try.prog 41 (s41 (R54_Keys_OpenF R32_Open)) := by
  refine SumOK.of_leads tab_ok (fun ar os r ha hr => ?_) ⟨Try.f41, rfl, by decide, rfl⟩
  replace hr : r41 (R54_Keys_OpenF R32_Open) ar (conts os) = some r := hr
  unfold r41 at hr
  generalize hc : conts os = C at hr
  have hq := dPt.elim hr; clear hr; obtain ⟨c0, l1, C, y0, rfl, rfl, e0, hr⟩ := hq; obtain rfl := unR54_Keys_eq _ _ e0
  replace hr := dV.elim hr; obtain ⟨v1, l2, y1, rfl, e1, hr⟩ := hr; obtain rfl := uvapi_Tuple_eq _ _ e1
  replace hr := dV.elim hr; obtain ⟨v2, l3, y2, rfl, e2, hr⟩ := hr; obtain rfl := asI_eq _ _ _ e2
  replace hr := dFin hr; obtain ⟨rfl, rfl, x, h, rfl⟩ := hr
  obtain ⟨os, rfl, ha, hc⟩ := kinds_some ha hc
  obtain rfl := kinds_nil hc
  exact ⟨_, rfl, leads41 R32_Open hS _ _ _ x h⟩
def R54_Keys_Open : R54_Keys → api_Tuple → Int → Option (Int × Bool × Bool × R54_Keys) := R54_Keys_OpenF R32_Open
theorem lift41 : SumOK Try.prog 41 (s41 R54_Keys_Open) := ok41 R32_Open (SumsOK.of_tab ⟨lift46, trivial⟩)
def law54_RekeyPlays_s1 (R32_Make : api_Key → api_Tuple → Int → Option Int) (R54_Keys_Go : R54_Keys → Int → Option (Int × R54_Keys)) (R54_Keys_Open : R54_Keys → api_Tuple → Int → Option (Int × Bool × Bool × R54_Keys)) (R54_Keys_Turn : R54_Keys → Int → Option (Int × R54_Keys)) (R54_Next : api_Key → Option api_Key) (law54_awake : Option Bool) (rekey_Keys_Go : rekey_Keys → Int → Option (Int × rekey_Keys)) (rekey_Keys_Key : rekey_Keys → Option (api_Key × rekey_Keys)) (rekey_Keys_Make : rekey_Keys → api_Tuple → Int → Option (Int × rekey_Keys)) (rekey_Keys_Old : rekey_Keys → Option (api_Key × Int × Bool × rekey_Keys)) (rekey_Keys_Open : rekey_Keys → api_Tuple → Int → Option (Int × Bool × Bool × rekey_Keys)) (rekey_Keys_Turn : rekey_Keys → Int → Option (Int × rekey_Keys)) (rekey_Next : api_Key → Option api_Key) (k : api_Key) (l : List R54_Step) (i : Int) (xr : Int) (xr1 : Int) (xr2 : Int) (xr3 : Int) (xr4 : Int) (xr5 : Int) (xr6 : Int) (x : Int) (x1 : Int) (x2 : Int) (x3 : Int) (x4 : Bool) (x5 : Int) (x6 : Int) (made1 : List Int) : Option (Sum (Int × Int × Int × Int × Int × Int × Int × Int × Int × Int × Int × Int × Bool × Int × Int × (List Int)) Bool) :=
  cond (decide (i < (l.length : Int)))
    (
    oreq (decide ((0 : Int) ≤ i ∧ i < (l.length : Int))) <|
    (l[i.toNat]?).bind fun (e : R54_Step) =>
    cond (e.Kind == 0)
      (
      (rekey_Keys_Turn (rekey_Keys.mk (Arr2_api_Key.mk (api_Key.mk xr xr1) (api_Key.mk xr2 xr3)) xr4 xr5 xr6) e.N).bind fun t =>
      (R54_Keys_Turn (R54_Keys.mk (api_Key.mk x x1) (api_Key.mk x2 x3) x4 x5 x6) e.N).bind fun t1 =>
      cond (t.1 != t1.1)
        (
        some (.inr (false)))
        (
        (rekey_Keys_Old t.2).bind fun xo =>
        (rekey_Keys_Key xo.2.2.2).bind fun k1 =>
        let t2 := !((k1.1.A == t1.2.New.A) && ((k1.1.B == t1.2.New.B) && true))
        cond (t2)
          (
          some (.inr (false)))
          (
          let t3 := !((xo.1.A == t1.2.Old.A) && ((xo.1.B == t1.2.Old.B) && true))
          cond (t3)
            (
            some (.inr (false)))
            (
            cond (xo.2.1 != t1.2.Until)
              (
              some (.inr (false)))
              (
              cond (!(xo.2.2.1 == t1.2.Has))
                (
                some (.inr (false)))
                (
                some (.inl (wI .i64 (i + 1), k1.2.keys.e0.A, k1.2.keys.e0.B, k1.2.keys.e1.A, k1.2.keys.e1.B, k1.2.some_, k1.2.until_, k1.2.now, t1.2.New.A, t1.2.New.B, t1.2.Old.A, t1.2.Old.B, t1.2.Has, t1.2.Until, t1.2.Now, made1))))))))
      (
      cond (e.Kind == 1)
        (
        (rekey_Keys_Go (rekey_Keys.mk (Arr2_api_Key.mk (api_Key.mk xr xr1) (api_Key.mk xr2 xr3)) xr4 xr5 xr6) e.N).bind fun xg =>
        (R54_Keys_Go (R54_Keys.mk (api_Key.mk x x1) (api_Key.mk x2 x3) x4 x5 x6) e.N).bind fun xg1 =>
        cond (xg.1 != xg1.1)
          (
          some (.inr (false)))
          (
          (rekey_Keys_Old xg.2).bind fun xo1 =>
          (rekey_Keys_Key xo1.2.2.2).bind fun k2 =>
          let t4 := !((k2.1.A == xg1.2.New.A) && ((k2.1.B == xg1.2.New.B) && true))
          cond (t4)
            (
            some (.inr (false)))
            (
            let t5 := !((xo1.1.A == xg1.2.Old.A) && ((xo1.1.B == xg1.2.Old.B) && true))
            cond (t5)
              (
              some (.inr (false)))
              (
              cond (xo1.2.1 != xg1.2.Until)
                (
                some (.inr (false)))
                (
                cond (!(xo1.2.2.1 == xg1.2.Has))
                  (
                  some (.inr (false)))
                  (
                  some (.inl (wI .i64 (i + 1), k2.2.keys.e0.A, k2.2.keys.e0.B, k2.2.keys.e1.A, k2.2.keys.e1.B, k2.2.some_, k2.2.until_, k2.2.now, xg1.2.New.A, xg1.2.New.B, xg1.2.Old.A, xg1.2.Old.B, xg1.2.Has, xg1.2.Until, xg1.2.Now, made1))))))))
        (
        cond (e.Kind == 2)
          (
          (R32_Make (api_Key.mk x x1) e.T e.N).bind fun m =>
          (rekey_Keys_Make (rekey_Keys.mk (Arr2_api_Key.mk (api_Key.mk xr xr1) (api_Key.mk xr2 xr3)) xr4 xr5 xr6) e.T e.N).bind fun m1 =>
          cond (m1.1 != m)
            (
            some (.inr (false)))
            (
            oreq (decide ((made1.length + 1) * 8 ≤ 2 ^ 47)) <|
            let row := made1 ++ [m]
            (rekey_Keys_Old m1.2).bind fun xo2 =>
            (rekey_Keys_Key xo2.2.2.2).bind fun k3 =>
            let t6 := !((k3.1.A == x) && ((k3.1.B == x1) && true))
            cond (t6)
              (
              some (.inr (false)))
              (
              let t7 := !((xo2.1.A == x2) && ((xo2.1.B == x3) && true))
              cond (t7)
                (
                some (.inr (false)))
                (
                cond (xo2.2.1 != x5)
                  (
                  some (.inr (false)))
                  (
                  cond (!(xo2.2.2.1 == x4))
                    (
                    some (.inr (false)))
                    (
                    some (.inl (wI .i64 (i + 1), k3.2.keys.e0.A, k3.2.keys.e0.B, k3.2.keys.e1.A, k3.2.keys.e1.B, k3.2.some_, k3.2.until_, k3.2.now, x, x1, x2, x3, x4, x5, x6, row))))))))
          (
          cond (decide (e.Pick ≥ 0))
            (
            cond (decide ((made1.length : Int) > 0))
              (
              oreq (!(decide ((made1.length : Int) = 0))) <|
              oreq (decide ((0 : Int) ≤ (e.Pick.tmod (made1.length : Int)) ∧ (e.Pick.tmod (made1.length : Int)) < (made1.length : Int))) <|
              (made1[(e.Pick.tmod (made1.length : Int)).toNat]?).bind fun (e1 : Int) =>
              (rekey_Keys_Open (rekey_Keys.mk (Arr2_api_Key.mk (api_Key.mk xr xr1) (api_Key.mk xr2 xr3)) xr4 xr5 xr6) e.T e1).bind fun xo3 =>
              (R54_Keys_Open (R54_Keys.mk (api_Key.mk x x1) (api_Key.mk x2 x3) x4 x5 x6) e.T e1).bind fun xo4 =>
              cond (xo3.1 != xo4.1)
                (
                some (.inr (false)))
                (
                cond (!(xo3.2.1 == xo4.2.1))
                  (
                  some (.inr (false)))
                  (
                  cond (!(xo3.2.2.1 == xo4.2.2.1))
                    (
                    some (.inr (false)))
                    (
                    (rekey_Keys_Old xo3.2.2.2).bind fun xo5 =>
                    (rekey_Keys_Key xo5.2.2.2).bind fun k4 =>
                    let t8 := !((k4.1.A == xo4.2.2.2.New.A) && ((k4.1.B == xo4.2.2.2.New.B) && true))
                    cond (t8)
                      (
                      some (.inr (false)))
                      (
                      let t9 := !((xo5.1.A == xo4.2.2.2.Old.A) && ((xo5.1.B == xo4.2.2.2.Old.B) && true))
                      cond (t9)
                        (
                        some (.inr (false)))
                        (
                        cond (xo5.2.1 != xo4.2.2.2.Until)
                          (
                          some (.inr (false)))
                          (
                          cond (!(xo5.2.2.1 == xo4.2.2.2.Has))
                            (
                            some (.inr (false)))
                            (
                            some (.inl (wI .i64 (i + 1), k4.2.keys.e0.A, k4.2.keys.e0.B, k4.2.keys.e1.A, k4.2.keys.e1.B, k4.2.some_, k4.2.until_, k4.2.now, xo4.2.2.2.New.A, xo4.2.2.2.New.B, xo4.2.2.2.Old.A, xo4.2.2.2.Old.B, xo4.2.2.2.Has, xo4.2.2.2.Until, xo4.2.2.2.Now, made1))))))))))
              (
              (rekey_Keys_Open (rekey_Keys.mk (Arr2_api_Key.mk (api_Key.mk xr xr1) (api_Key.mk xr2 xr3)) xr4 xr5 xr6) e.T e.Cookie).bind fun xo6 =>
              (R54_Keys_Open (R54_Keys.mk (api_Key.mk x x1) (api_Key.mk x2 x3) x4 x5 x6) e.T e.Cookie).bind fun xo7 =>
              cond (xo6.1 != xo7.1)
                (
                some (.inr (false)))
                (
                cond (!(xo6.2.1 == xo7.2.1))
                  (
                  some (.inr (false)))
                  (
                  cond (!(xo6.2.2.1 == xo7.2.2.1))
                    (
                    some (.inr (false)))
                    (
                    (rekey_Keys_Old xo6.2.2.2).bind fun xo8 =>
                    (rekey_Keys_Key xo8.2.2.2).bind fun k5 =>
                    let t10 := !((k5.1.A == xo7.2.2.2.New.A) && ((k5.1.B == xo7.2.2.2.New.B) && true))
                    cond (t10)
                      (
                      some (.inr (false)))
                      (
                      let t11 := !((xo8.1.A == xo7.2.2.2.Old.A) && ((xo8.1.B == xo7.2.2.2.Old.B) && true))
                      cond (t11)
                        (
                        some (.inr (false)))
                        (
                        cond (xo8.2.1 != xo7.2.2.2.Until)
                          (
                          some (.inr (false)))
                          (
                          cond (!(xo8.2.2.1 == xo7.2.2.2.Has))
                            (
                            some (.inr (false)))
                            (
                            some (.inl (wI .i64 (i + 1), k5.2.keys.e0.A, k5.2.keys.e0.B, k5.2.keys.e1.A, k5.2.keys.e1.B, k5.2.some_, k5.2.until_, k5.2.now, xo7.2.2.2.New.A, xo7.2.2.2.New.B, xo7.2.2.2.Old.A, xo7.2.2.2.Old.B, xo7.2.2.2.Has, xo7.2.2.2.Until, xo7.2.2.2.Now, made1)))))))))))
            (
            (rekey_Keys_Open (rekey_Keys.mk (Arr2_api_Key.mk (api_Key.mk xr xr1) (api_Key.mk xr2 xr3)) xr4 xr5 xr6) e.T e.Cookie).bind fun xo9 =>
            (R54_Keys_Open (R54_Keys.mk (api_Key.mk x x1) (api_Key.mk x2 x3) x4 x5 x6) e.T e.Cookie).bind fun xo10 =>
            cond (xo9.1 != xo10.1)
              (
              some (.inr (false)))
              (
              cond (!(xo9.2.1 == xo10.2.1))
                (
                some (.inr (false)))
                (
                cond (!(xo9.2.2.1 == xo10.2.2.1))
                  (
                  some (.inr (false)))
                  (
                  (rekey_Keys_Old xo9.2.2.2).bind fun xo11 =>
                  (rekey_Keys_Key xo11.2.2.2).bind fun k6 =>
                  let t12 := !((k6.1.A == xo10.2.2.2.New.A) && ((k6.1.B == xo10.2.2.2.New.B) && true))
                  cond (t12)
                    (
                    some (.inr (false)))
                    (
                    let t13 := !((xo11.1.A == xo10.2.2.2.Old.A) && ((xo11.1.B == xo10.2.2.2.Old.B) && true))
                    cond (t13)
                      (
                      some (.inr (false)))
                      (
                      cond (xo11.2.1 != xo10.2.2.2.Until)
                        (
                        some (.inr (false)))
                        (
                        cond (!(xo11.2.2.1 == xo10.2.2.2.Has))
                          (
                          some (.inr (false)))
                          (
                          some (.inl (wI .i64 (i + 1), k6.2.keys.e0.A, k6.2.keys.e0.B, k6.2.keys.e1.A, k6.2.keys.e1.B, k6.2.some_, k6.2.until_, k6.2.now, xo10.2.2.2.New.A, xo10.2.2.2.New.B, xo10.2.2.2.Old.A, xo10.2.2.2.Old.B, xo10.2.2.2.Has, xo10.2.2.2.Until, xo10.2.2.2.Now, made1))))))))))))))
    (
    (rekey_Next k).bind fun n1 =>
    (R54_Next k).bind fun n2 =>
    let t14 := (n1.A == n2.A) && ((n1.B == n2.B) && true)
    cond (t14)
      (
      (law54_awake).bind fun a1 =>
      some (.inr (a1)))
      (
      some (.inr (false))))
def law54_RekeyPlaysF (R32_Make : api_Key → api_Tuple → Int → Option Int) (R54_Keys_Go : R54_Keys → Int → Option (Int × R54_Keys)) (R54_Keys_Open : R54_Keys → api_Tuple → Int → Option (Int × Bool × Bool × R54_Keys)) (R54_Keys_Turn : R54_Keys → Int → Option (Int × R54_Keys)) (R54_Next : api_Key → Option api_Key) (law54_awake : Option Bool) (rekey_Keys_Go : rekey_Keys → Int → Option (Int × rekey_Keys)) (rekey_Keys_Key : rekey_Keys → Option (api_Key × rekey_Keys)) (rekey_Keys_Key_nil : Option api_Key) (rekey_Keys_Make : rekey_Keys → api_Tuple → Int → Option (Int × rekey_Keys)) (rekey_Keys_Old : rekey_Keys → Option (api_Key × Int × Bool × rekey_Keys)) (rekey_Keys_Open : rekey_Keys → api_Tuple → Int → Option (Int × Bool × Bool × rekey_Keys)) (rekey_Keys_Open_nil : api_Tuple → Int → Option (Int × Bool × Bool)) (rekey_Keys_Turn : rekey_Keys → Int → Option (Int × rekey_Keys)) (rekey_Keys_Turn_nil : Int → Option Int) (rekey_New : api_Key → Option rekey_Keys) (rekey_Next : api_Key → Option api_Key) (k : api_Key) (l : List R54_Step) : Option Bool :=
  cond (decide ((l.length : Int) > 30))
    (
    (law54_awake).bind fun a =>
    some (a))
    (
    (rekey_New k).bind fun n =>
    iter (fun st => law54_RekeyPlays_s1 R32_Make R54_Keys_Go R54_Keys_Open R54_Keys_Turn R54_Next law54_awake rekey_Keys_Go rekey_Keys_Key rekey_Keys_Make rekey_Keys_Old rekey_Keys_Open rekey_Keys_Turn rekey_Next k l st.1 st.2.1 st.2.2.1 st.2.2.2.1 st.2.2.2.2.1 st.2.2.2.2.2.1 st.2.2.2.2.2.2.1 st.2.2.2.2.2.2.2.1 st.2.2.2.2.2.2.2.2.1 st.2.2.2.2.2.2.2.2.2.1 st.2.2.2.2.2.2.2.2.2.2.1 st.2.2.2.2.2.2.2.2.2.2.2.1 st.2.2.2.2.2.2.2.2.2.2.2.2.1 st.2.2.2.2.2.2.2.2.2.2.2.2.2.1 st.2.2.2.2.2.2.2.2.2.2.2.2.2.2.1 st.2.2.2.2.2.2.2.2.2.2.2.2.2.2.2) FUEL (0, n.keys.e0.A, n.keys.e0.B, n.keys.e1.A, n.keys.e1.B, n.some_, n.until_, n.now, k.A, k.B, 0, 0, false, 0, 0, []))
def rx6 (x : Bool) : SRes := ⟨.bool x, [], [none]⟩
abbrev sums6 (R32_Make : api_Key → api_Tuple → Int → Option Int) (R54_Keys_Go : R54_Keys → Int → Option (Int × R54_Keys)) (R54_Keys_Open : R54_Keys → api_Tuple → Int → Option (Int × Bool × Bool × R54_Keys)) (R54_Keys_Turn : R54_Keys → Int → Option (Int × R54_Keys)) (R54_Next : api_Key → Option api_Key) (law54_awake : Option Bool) (rekey_Keys_Go : rekey_Keys → Int → Option (Int × rekey_Keys)) (rekey_Keys_Key : rekey_Keys → Option (api_Key × rekey_Keys)) (rekey_Keys_Key_nil : Option api_Key) (rekey_Keys_Make : rekey_Keys → api_Tuple → Int → Option (Int × rekey_Keys)) (rekey_Keys_Old : rekey_Keys → Option (api_Key × Int × Bool × rekey_Keys)) (rekey_Keys_Open : rekey_Keys → api_Tuple → Int → Option (Int × Bool × Bool × rekey_Keys)) (rekey_Keys_Open_nil : api_Tuple → Int → Option (Int × Bool × Bool)) (rekey_Keys_Turn : rekey_Keys → Int → Option (Int × rekey_Keys)) (rekey_Keys_Turn_nil : Int → Option Int) (rekey_New : api_Key → Option rekey_Keys) (rekey_Next : api_Key → Option api_Key) : List (Nat × Summ) := [(38, s38 R32_Make), (37, s37 R54_Keys_Go), (41, s41 R54_Keys_Open), (35, s35 R54_Keys_Turn), (45, s45 R54_Next), (32, s32 law54_awake), (36, s36 rekey_Keys_Go), (43, s43 rekey_Keys_Key rekey_Keys_Key_nil), (39, s39 rekey_Keys_Make), (42, s42 rekey_Keys_Old), (40, s40 rekey_Keys_Open rekey_Keys_Open_nil), (34, s34 rekey_Keys_Turn rekey_Keys_Turn_nil), (33, s33 rekey_New), (44, s44 rekey_Next)]
def head6_1 (k : api_Key) (l : List R54_Step) (i : Int) (xr : Int) (xr1 : Int) (xr2 : Int) (xr3 : Int) (xr4 : Int) (xr5 : Int) (xr6 : Int) (x : Int) (x1 : Int) (x2 : Int) (x3 : Int) (x4 : Bool) (x5 : Int) (x6 : Int) (made1 : List Int) : VM :=
  ⟨⟨6, 181, [(1, .slice (some ⟨0, 0, none⟩) l.length 13), (2, .pointer (some ⟨1, 0, none⟩)), (5, .pointer (some ⟨3, 0, none⟩)), (6, .pointer (some ⟨7, 0, none⟩)), (7, .slice (some ⟨10, 0, none⟩) made1.length 1), (8, .int .i64 i)], [.code k6_72, .inLoop k6_72, .inBlock 0, .code k6_77], [], false, none⟩, [], [(0, .row false (vT cR54_Step l)), (1, .cells [.int .u64 k.A, .int .u64 k.B]), (3, .row true [.int .u64 xr, .int .u64 xr1, .int .u64 xr2, .int .u64 xr3, .int .i64 xr4, .int .i64 xr5, .int .i64 xr6]), (7, .cells [.int .u64 x, .int .u64 x1, .int .u64 x2, .int .u64 x3, .bool x4, .int .i64 x5, .int .i64 x6]), (10, .row true (vI .u64 made1))], 11⟩
theorem loop6_1 (R32_Make : api_Key → api_Tuple → Int → Option Int) (R54_Keys_Go : R54_Keys → Int → Option (Int × R54_Keys)) (R54_Keys_Open : R54_Keys → api_Tuple → Int → Option (Int × Bool × Bool × R54_Keys)) (R54_Keys_Turn : R54_Keys → Int → Option (Int × R54_Keys)) (R54_Next : api_Key → Option api_Key) (law54_awake : Option Bool) (rekey_Keys_Go : rekey_Keys → Int → Option (Int × rekey_Keys)) (rekey_Keys_Key : rekey_Keys → Option (api_Key × rekey_Keys)) (rekey_Keys_Key_nil : Option api_Key) (rekey_Keys_Make : rekey_Keys → api_Tuple → Int → Option (Int × rekey_Keys)) (rekey_Keys_Old : rekey_Keys → Option (api_Key × Int × Bool × rekey_Keys)) (rekey_Keys_Open : rekey_Keys → api_Tuple → Int → Option (Int × Bool × Bool × rekey_Keys)) (rekey_Keys_Open_nil : api_Tuple → Int → Option (Int × Bool × Bool)) (rekey_Keys_Turn : rekey_Keys → Int → Option (Int × rekey_Keys)) (rekey_Keys_Turn_nil : Int → Option Int) (rekey_New : api_Key → Option rekey_Keys) (rekey_Next : api_Key → Option api_Key) (hS : SumsOK Try.prog (aget (sums6 R32_Make R54_Keys_Go R54_Keys_Open R54_Keys_Turn R54_Next law54_awake rekey_Keys_Go rekey_Keys_Key rekey_Keys_Key_nil rekey_Keys_Make rekey_Keys_Old rekey_Keys_Open rekey_Keys_Open_nil rekey_Keys_Turn rekey_Keys_Turn_nil rekey_New rekey_Next))) (k : api_Key) (l : List R54_Step) (res : Bool) : ∀ fuel (st : Int × Int × Int × Int × Int × Int × Int × Int × Int × Int × Int × Int × Bool × Int × Int × (List Int)) (o : Bool), iter (fun st => law54_RekeyPlays_s1 R32_Make R54_Keys_Go R54_Keys_Open R54_Keys_Turn R54_Next law54_awake rekey_Keys_Go rekey_Keys_Key rekey_Keys_Make rekey_Keys_Old rekey_Keys_Open rekey_Keys_Turn rekey_Next k l st.1 st.2.1 st.2.2.1 st.2.2.2.1 st.2.2.2.2.1 st.2.2.2.2.2.1 st.2.2.2.2.2.2.1 st.2.2.2.2.2.2.2.1 st.2.2.2.2.2.2.2.2.1 st.2.2.2.2.2.2.2.2.2.1 st.2.2.2.2.2.2.2.2.2.2.1 st.2.2.2.2.2.2.2.2.2.2.2.1 st.2.2.2.2.2.2.2.2.2.2.2.2.1 st.2.2.2.2.2.2.2.2.2.2.2.2.2.1 st.2.2.2.2.2.2.2.2.2.2.2.2.2.2.1 st.2.2.2.2.2.2.2.2.2.2.2.2.2.2.2) fuel st = some o → (o = res) →
    Leads Try.prog 6 1 (head6_1 k l st.1 st.2.1 st.2.2.1 st.2.2.2.1 st.2.2.2.2.1 st.2.2.2.2.2.1 st.2.2.2.2.2.2.1 st.2.2.2.2.2.2.2.1 st.2.2.2.2.2.2.2.2.1 st.2.2.2.2.2.2.2.2.2.1 st.2.2.2.2.2.2.2.2.2.2.1 st.2.2.2.2.2.2.2.2.2.2.2.1 st.2.2.2.2.2.2.2.2.2.2.2.2.1 st.2.2.2.2.2.2.2.2.2.2.2.2.2.1 st.2.2.2.2.2.2.2.2.2.2.2.2.2.2.1 st.2.2.2.2.2.2.2.2.2.2.2.2.2.2.2) (fun v H _ => Res 1 (rx6 res) v H) := by
  intro fuel st o h hc
  refine iter_leads (head := fun st => head6_1 k l st.1 st.2.1 st.2.2.1 st.2.2.2.1 st.2.2.2.2.1 st.2.2.2.2.2.1 st.2.2.2.2.2.2.1 st.2.2.2.2.2.2.2.1 st.2.2.2.2.2.2.2.2.1 st.2.2.2.2.2.2.2.2.2.1 st.2.2.2.2.2.2.2.2.2.2.1 st.2.2.2.2.2.2.2.2.2.2.2.1 st.2.2.2.2.2.2.2.2.2.2.2.2.1 st.2.2.2.2.2.2.2.2.2.2.2.2.2.1 st.2.2.2.2.2.2.2.2.2.2.2.2.2.2.1 st.2.2.2.2.2.2.2.2.2.2.2.2.2.2.2) (C := fun o => (o = res)) ?_ fuel st o h hc
  clear h hc o st fuel
  intro st o h hc
  obtain ⟨i, xr, xr1, xr2, xr3, xr4, xr5, xr6, x, x1, x2, x3, x4, x5, x6, made1⟩ := st
  replace h : law54_RekeyPlays_s1 R32_Make R54_Keys_Go R54_Keys_Open R54_Keys_Turn R54_Next law54_awake rekey_Keys_Go rekey_Keys_Key rekey_Keys_Make rekey_Keys_Old rekey_Keys_Open rekey_Keys_Turn rekey_Next k l i xr xr1 xr2 xr3 xr4 xr5 xr6 x x1 x2 x3 x4 x5 x6 made1 = some o := h
  show Leads Try.prog 6 1 (head6_1 k l i xr xr1 xr2 xr3 xr4 xr5 xr6 x x1 x2 x3 x4 x5 x6 made1) (fun v H _ => Res 1 (rx6 res) v H)
  unfold law54_RekeyPlays_s1 at h
  refine ev_ok tab_ok hS true 3000 ?_
  conv => whnf
  refine br.h2 h ?_ ?_ ?_
  · rfl
  · clear h; intro hb h; conv => whnf
    replace h := obind.elim h; obtain ⟨n1, hy, h⟩ := h
    refine sumK.q rfl rfl (r44_eq hy) rfl rfl rfl ?_
    conv => whnf
    replace h := obind.elim h; obtain ⟨n2, hy, h⟩ := h
    refine sumK.q rfl rfl (r45_eq hy) rfl rfl rfl ?_
    conv => whnf
    let t14 : Bool := (n1.A == n2.A) && ((n1.B == n2.B) && true)
    refine br.h2 h ?_ ?_ ?_
    · rfl
    · clear h; intro hb h; conv => whnf
      all_goals (cases h; cases hc)
      all_goals exact Res.of [] rfl nw_0 (by decide) js_0 (wr_n wr_0)
    clear h; intro hb h; conv => whnf
    replace h := obind.elim h; obtain ⟨a1, hy, h⟩ := h
    refine sumK.q rfl rfl (r32_eq hy) rfl rfl rfl ?_
    conv => whnf
    all_goals (cases h; cases hc)
    all_goals exact Res.of [] rfl nw_0 (by decide) js_0 (wr_n wr_0)
  clear h; intro hb h; conv => whnf
  replace h := oreq.elim h; obtain ⟨hb, h⟩ := h
  first | (refine req.intro hb ?_; conv => whnf) | skip
  replace h := obind.elim h; obtain ⟨e, hy, h⟩ := h
  refine ld_T cR54_Step_len hy (by first | omega | exact Nat.zero_add _ | exact congrArg (· + _) (Nat.zero_add _)) rfl ?_
  conv => whnf
  refine br.h h ?_ ?_ ?_
  · rfl
  · clear h; intro hb h; conv => whnf
    replace h := obind.elim h; obtain ⟨t, hy, h⟩ := h
    refine sumK.introF [3] (sumRun_of (aqs := [.pointer (some ⟨0, 0, none⟩), .int .i64 e.N]) (ws := [.win 3 0 7 true]) (n := 0) (m := 0) (t' := 15) (ra_cons rfl rfl (ra_cons rfl rfl ra_nil)) rfl (by rfl) (r34_eq hy) rfl rfl rfl rfl (wb_win rfl rfl rfl ⟨rfl, Nat.le_of_ble_eq_true rfl⟩ rfl rfl wb_nil) an_nil rfl) ?_
    conv => whnf
    replace h := obind.elim h; obtain ⟨t1, hy, h⟩ := h
    refine sumK.introF [7] (sumRun_of (aqs := [.pointer (some ⟨0, 0, none⟩), .int .i64 e.N]) (ws := [.win 7 0 7 true]) (n := 0) (m := 0) (t' := 19) (ra_cons rfl rfl (ra_cons rfl rfl ra_nil)) rfl (by rfl) (r35_eq hy) rfl rfl rfl rfl (wb_win rfl rfl rfl ⟨rfl, Nat.le_of_ble_eq_true rfl⟩ rfl rfl wb_nil) an_nil rfl) ?_
    conv => whnf
    refine br.h h ?_ ?_ ?_
    · rfl
    · clear h; intro hb h; conv => whnf
      all_goals (cases h; cases hc)
      all_goals exact Res.of [] rfl nw_0 (by decide) js_0 (wr_n wr_0)
    clear h; intro hb h; conv => whnf
    replace h := obind.elim h; obtain ⟨xo, hy, h⟩ := h
    refine sumK.introF [3] (sumRun_of (aqs := [.pointer (some ⟨0, 0, none⟩)]) (ws := [.win 3 0 7 true]) (n := 0) (m := 0) (t' := 19) (ra_cons rfl rfl ra_nil) rfl (by rfl) (r42_eq hy) rfl rfl rfl rfl (wb_win rfl rfl rfl ⟨rfl, Nat.le_of_ble_eq_true rfl⟩ rfl rfl wb_nil) an_nil rfl) ?_
    conv => whnf
    replace h := obind.elim h; obtain ⟨k1, hy, h⟩ := h
    refine sumK.introF [3] (sumRun_of (aqs := [.pointer (some ⟨0, 0, none⟩)]) (ws := [.win 3 0 7 true]) (n := 0) (m := 0) (t' := 21) (ra_cons rfl rfl ra_nil) rfl (by rfl) (r43_eq hy) rfl rfl rfl rfl (wb_win rfl rfl rfl ⟨rfl, Nat.le_of_ble_eq_true rfl⟩ rfl rfl wb_nil) an_nil rfl) ?_
    conv => whnf
    let t2 : Bool := !((k1.1.A == t1.2.New.A) && ((k1.1.B == t1.2.New.B) && true))
    refine br.h h ?_ ?_ ?_
    · rfl
    · clear h; intro hb h; conv => whnf
      all_goals (cases h; cases hc)
      all_goals exact Res.of [] rfl nw_0 (by decide) js_0 (wr_n wr_0)
    clear h; intro hb h; conv => whnf
    let t3 : Bool := !((xo.1.A == t1.2.Old.A) && ((xo.1.B == t1.2.Old.B) && true))
    refine br.h h ?_ ?_ ?_
    · rfl
    · clear h; intro hb h; conv => whnf
      all_goals (cases h; cases hc)
      all_goals exact Res.of [] rfl nw_0 (by decide) js_0 (wr_n wr_0)
    clear h; intro hb h; conv => whnf
    refine br.h h ?_ ?_ ?_
    · rfl
    · clear h; intro hb h; conv => whnf
      all_goals (cases h; cases hc)
      all_goals exact Res.of [] rfl nw_0 (by decide) js_0 (wr_n wr_0)
    clear h; intro hb h; conv => whnf
    refine br.h h ?_ ?_ ?_
    · rfl
    · clear h; intro hb h; conv => whnf
      all_goals (cases h; cases hc)
      all_goals exact Res.of [] rfl nw_0 (by decide) js_0 (wr_n wr_0)
    clear h; intro hb h; conv => whnf
    cases h; simp only [Sum.elim_inl, head6_1] at hc
    exact lrA0 hc [(0, 0), (1, 1), (3, 3), (7, 7), (10, 10)] rfl
  clear h; intro hb h; conv => whnf
  refine br.h h ?_ ?_ ?_
  · rfl
  · clear h; intro hb h; conv => whnf
    replace h := obind.elim h; obtain ⟨xg, hy, h⟩ := h
    refine sumK.introF [3] (sumRun_of (aqs := [.pointer (some ⟨0, 0, none⟩), .int .i64 e.N]) (ws := [.win 3 0 7 true]) (n := 0) (m := 0) (t' := 15) (ra_cons rfl rfl (ra_cons rfl rfl ra_nil)) rfl (by rfl) (r36_eq hy) rfl rfl rfl rfl (wb_win rfl rfl rfl ⟨rfl, Nat.le_of_ble_eq_true rfl⟩ rfl rfl wb_nil) an_nil rfl) ?_
    conv => whnf
    replace h := obind.elim h; obtain ⟨xg1, hy, h⟩ := h
    refine sumK.introF [7] (sumRun_of (aqs := [.pointer (some ⟨0, 0, none⟩), .int .i64 e.N]) (ws := [.win 7 0 7 true]) (n := 0) (m := 0) (t' := 19) (ra_cons rfl rfl (ra_cons rfl rfl ra_nil)) rfl (by rfl) (r37_eq hy) rfl rfl rfl rfl (wb_win rfl rfl rfl ⟨rfl, Nat.le_of_ble_eq_true rfl⟩ rfl rfl wb_nil) an_nil rfl) ?_
    conv => whnf
    refine br.h h ?_ ?_ ?_
    · rfl
    · clear h; intro hb h; conv => whnf
      all_goals (cases h; cases hc)
      all_goals exact Res.of [] rfl nw_0 (by decide) js_0 (wr_n wr_0)
    clear h; intro hb h; conv => whnf
    replace h := obind.elim h; obtain ⟨xo1, hy, h⟩ := h
    refine sumK.introF [3] (sumRun_of (aqs := [.pointer (some ⟨0, 0, none⟩)]) (ws := [.win 3 0 7 true]) (n := 0) (m := 0) (t' := 19) (ra_cons rfl rfl ra_nil) rfl (by rfl) (r42_eq hy) rfl rfl rfl rfl (wb_win rfl rfl rfl ⟨rfl, Nat.le_of_ble_eq_true rfl⟩ rfl rfl wb_nil) an_nil rfl) ?_
    conv => whnf
    replace h := obind.elim h; obtain ⟨k2, hy, h⟩ := h
    refine sumK.introF [3] (sumRun_of (aqs := [.pointer (some ⟨0, 0, none⟩)]) (ws := [.win 3 0 7 true]) (n := 0) (m := 0) (t' := 21) (ra_cons rfl rfl ra_nil) rfl (by rfl) (r43_eq hy) rfl rfl rfl rfl (wb_win rfl rfl rfl ⟨rfl, Nat.le_of_ble_eq_true rfl⟩ rfl rfl wb_nil) an_nil rfl) ?_
    conv => whnf
    let t4 : Bool := !((k2.1.A == xg1.2.New.A) && ((k2.1.B == xg1.2.New.B) && true))
    refine br.h h ?_ ?_ ?_
    · rfl
    · clear h; intro hb h; conv => whnf
      all_goals (cases h; cases hc)
      all_goals exact Res.of [] rfl nw_0 (by decide) js_0 (wr_n wr_0)
    clear h; intro hb h; conv => whnf
    let t5 : Bool := !((xo1.1.A == xg1.2.Old.A) && ((xo1.1.B == xg1.2.Old.B) && true))
    refine br.h h ?_ ?_ ?_
    · rfl
    · clear h; intro hb h; conv => whnf
      all_goals (cases h; cases hc)
      all_goals exact Res.of [] rfl nw_0 (by decide) js_0 (wr_n wr_0)
    clear h; intro hb h; conv => whnf
    refine br.h h ?_ ?_ ?_
    · rfl
    · clear h; intro hb h; conv => whnf
      all_goals (cases h; cases hc)
      all_goals exact Res.of [] rfl nw_0 (by decide) js_0 (wr_n wr_0)
    clear h; intro hb h; conv => whnf
    refine br.h h ?_ ?_ ?_
    · rfl
    · clear h; intro hb h; conv => whnf
      all_goals (cases h; cases hc)
      all_goals exact Res.of [] rfl nw_0 (by decide) js_0 (wr_n wr_0)
    clear h; intro hb h; conv => whnf
    cases h; simp only [Sum.elim_inl, head6_1] at hc
    exact lrA0 hc [(0, 0), (1, 1), (3, 3), (7, 7), (10, 10)] rfl
  clear h; intro hb h; conv => whnf
  refine br.h h ?_ ?_ ?_
  · rfl
  · clear h; intro hb h; conv => whnf
    replace h := obind.elim h; obtain ⟨m, hy, h⟩ := h
    refine sumK.q rfl rfl (r38_eq hy) rfl rfl rfl ?_
    conv => whnf
    replace h := obind.elim h; obtain ⟨m1, hy, h⟩ := h
    refine sumK.introF [3] (sumRun_of (aqs := [.pointer (some ⟨0, 0, none⟩), .agg ⟨[.int .i64 e.T.Proto, .bool e.T.Src.V6, .int .u64 e.T.Src.Hi, .int .u64 e.T.Src.Lo, .bool e.T.Dst.V6, .int .u64 e.T.Dst.Hi, .int .u64 e.T.Dst.Lo, .int .i64 e.T.SPort, .int .i64 e.T.DPort]⟩, .int .i64 e.N]) (ws := [.win 3 0 7 true]) (n := 0) (m := 0) (t' := 20) (ra_cons rfl rfl (ra_cons rfl rfl (ra_cons rfl rfl ra_nil))) rfl (by rfl) (r39_eq hy) rfl rfl rfl rfl (wb_win rfl rfl rfl ⟨rfl, Nat.le_of_ble_eq_true rfl⟩ rfl rfl wb_nil) an_nil rfl) ?_
    conv => whnf
    refine br.h h ?_ ?_ ?_
    · rfl
    · clear h; intro hb h; conv => whnf
      all_goals (cases h; cases hc)
      all_goals exact Res.of [] rfl nw_0 (by decide) js_0 (wr_n wr_0)
    clear h; intro hb h; conv => whnf
    replace h := oreq.elim h; obtain ⟨hb, h⟩ := h
    refine req.intro (ap_req (of_decide_eq_true hb) (by first | rfl | omega | (simp; done) | (simp; omega) | (simp at *; omega)) rfl (by first | rfl | omega | (simp; done) | (simp; omega) | (simp at *; omega)) (by first | rfl | exact vI_one _ _ | exact vS_one _ | exact vB_one _ | exact vT_one (by first | exact capi_Key_one | exact capi_Addr_one | exact capi_Tuple_one | exact cR54_Step_one | exact cArr2_api_Key_one | exact crekey_Keys_one | exact capi_Layout_one | exact cArr4_Int_one | exact csip_Hasher_one | exact ccookie_layout_one | exact cR54_Keys_one) _ | (rw [ofBytes_vI]; exact vI_one _ _) | (simp [vI_one, vS_one, vB_one, vI_drop, vI_take, vS_drop, vS_take]; done) | (simp; exact List.all_eq_true.1 (vT_one (by first | exact capi_Key_one | exact capi_Addr_one | exact capi_Tuple_one | exact cR54_Step_one | exact cArr2_api_Key_one | exact crekey_Keys_one | exact capi_Layout_one | exact cArr4_Int_one | exact csip_Hasher_one | exact ccookie_layout_one | exact cR54_Keys_one) _))) rfl) ?_
    conv => whnf
    let row : List Int := made1 ++ [m]
    refine pk_apI (xs := made1) (ys := [m]) rfl (by first | rfl | omega) (by first | rfl | omega | (simp; done) | (simp; omega) | (simp at *; omega)) (by first | rfl | omega | (simp; done) | (simp; omega) | (simp at *; omega)) ?_
    conv => whnf
    replace h := obind.elim h; obtain ⟨xo2, hy, h⟩ := h
    refine sumK.introF [3] (sumRun_of (aqs := [.pointer (some ⟨0, 0, none⟩)]) (ws := [.win 3 0 7 true]) (n := 0) (m := 0) (t' := 22) (ra_cons rfl rfl ra_nil) rfl (by rfl) (r42_eq hy) rfl rfl rfl rfl (wb_win rfl rfl rfl ⟨rfl, Nat.le_of_ble_eq_true rfl⟩ rfl rfl wb_nil) an_nil rfl) ?_
    conv => whnf
    replace h := obind.elim h; obtain ⟨k3, hy, h⟩ := h
    refine sumK.introF [3] (sumRun_of (aqs := [.pointer (some ⟨0, 0, none⟩)]) (ws := [.win 3 0 7 true]) (n := 0) (m := 0) (t' := 24) (ra_cons rfl rfl ra_nil) rfl (by rfl) (r43_eq hy) rfl rfl rfl rfl (wb_win rfl rfl rfl ⟨rfl, Nat.le_of_ble_eq_true rfl⟩ rfl rfl wb_nil) an_nil rfl) ?_
    conv => whnf
    let t6 : Bool := !((k3.1.A == x) && ((k3.1.B == x1) && true))
    refine br.h h ?_ ?_ ?_
    · rfl
    · clear h; intro hb h; conv => whnf
      all_goals (cases h; cases hc)
      all_goals exact Res.of [] rfl nw_0 (by decide) js_0 (wr_n wr_0)
    clear h; intro hb h; conv => whnf
    let t7 : Bool := !((xo2.1.A == x2) && ((xo2.1.B == x3) && true))
    refine br.h h ?_ ?_ ?_
    · rfl
    · clear h; intro hb h; conv => whnf
      all_goals (cases h; cases hc)
      all_goals exact Res.of [] rfl nw_0 (by decide) js_0 (wr_n wr_0)
    clear h; intro hb h; conv => whnf
    refine br.h h ?_ ?_ ?_
    · rfl
    · clear h; intro hb h; conv => whnf
      all_goals (cases h; cases hc)
      all_goals exact Res.of [] rfl nw_0 (by decide) js_0 (wr_n wr_0)
    clear h; intro hb h; conv => whnf
    refine br.h h ?_ ?_ ?_
    · rfl
    · clear h; intro hb h; conv => whnf
      all_goals (cases h; cases hc)
      all_goals exact Res.of [] rfl nw_0 (by decide) js_0 (wr_n wr_0)
    clear h; intro hb h; conv => whnf
    cases h; simp only [Sum.elim_inl, head6_1] at hc
    exact lrA0 hc [(0, 0), (1, 1), (3, 3), (7, 7), (10, 21)] rfl
  clear h; intro hb h; conv => whnf
  refine br.h2 h ?_ ?_ ?_
  · rfl
  · clear h; intro hb h; conv => whnf
    replace h := obind.elim h; obtain ⟨xo9, hy, h⟩ := h
    refine sumK.introF [3] (sumRun_of (aqs := [.pointer (some ⟨0, 0, none⟩), .agg ⟨[.int .i64 e.T.Proto, .bool e.T.Src.V6, .int .u64 e.T.Src.Hi, .int .u64 e.T.Src.Lo, .bool e.T.Dst.V6, .int .u64 e.T.Dst.Hi, .int .u64 e.T.Dst.Lo, .int .i64 e.T.SPort, .int .i64 e.T.DPort]⟩, .int .u64 e.Cookie]) (ws := [.win 3 0 7 true]) (n := 0) (m := 0) (t' := 12) (ra_cons rfl rfl (ra_cons rfl rfl (ra_cons rfl rfl ra_nil))) rfl (by rfl) (r40_eq hy) rfl rfl rfl rfl (wb_win rfl rfl rfl ⟨rfl, Nat.le_of_ble_eq_true rfl⟩ rfl rfl wb_nil) an_nil rfl) ?_
    conv => whnf
    replace h := obind.elim h; obtain ⟨xo10, hy, h⟩ := h
    refine sumK.introF [7] (sumRun_of (aqs := [.pointer (some ⟨0, 0, none⟩), .agg ⟨[.int .i64 e.T.Proto, .bool e.T.Src.V6, .int .u64 e.T.Src.Hi, .int .u64 e.T.Src.Lo, .bool e.T.Dst.V6, .int .u64 e.T.Dst.Hi, .int .u64 e.T.Dst.Lo, .int .i64 e.T.SPort, .int .i64 e.T.DPort]⟩, .int .u64 e.Cookie]) (ws := [.win 7 0 7 true]) (n := 0) (m := 0) (t' := 12) (ra_cons rfl rfl (ra_cons rfl rfl (ra_cons rfl rfl ra_nil))) rfl (by rfl) (r41_eq hy) rfl rfl rfl rfl (wb_win rfl rfl rfl ⟨rfl, Nat.le_of_ble_eq_true rfl⟩ rfl rfl wb_nil) an_nil rfl) ?_
    conv => whnf
    refine br.h h ?_ ?_ ?_
    · rfl
    · clear h; intro hb h; conv => whnf
      all_goals (cases h; cases hc)
      all_goals exact Res.of [] rfl nw_0 (by decide) js_0 (wr_n wr_0)
    clear h; intro hb h; conv => whnf
    refine br.h h ?_ ?_ ?_
    · rfl
    · clear h; intro hb h; conv => whnf
      all_goals (cases h; cases hc)
      all_goals exact Res.of [] rfl nw_0 (by decide) js_0 (wr_n wr_0)
    clear h; intro hb h; conv => whnf
    refine br.h h ?_ ?_ ?_
    · rfl
    · clear h; intro hb h; conv => whnf
      all_goals (cases h; cases hc)
      all_goals exact Res.of [] rfl nw_0 (by decide) js_0 (wr_n wr_0)
    clear h; intro hb h; conv => whnf
    replace h := obind.elim h; obtain ⟨xo11, hy, h⟩ := h
    refine sumK.introF [3] (sumRun_of (aqs := [.pointer (some ⟨0, 0, none⟩)]) (ws := [.win 3 0 7 true]) (n := 0) (m := 0) (t' := 12) (ra_cons rfl rfl ra_nil) rfl (by rfl) (r42_eq hy) rfl rfl rfl rfl (wb_win rfl rfl rfl ⟨rfl, Nat.le_of_ble_eq_true rfl⟩ rfl rfl wb_nil) an_nil rfl) ?_
    conv => whnf
    replace h := obind.elim h; obtain ⟨k6, hy, h⟩ := h
    refine sumK.introF [3] (sumRun_of (aqs := [.pointer (some ⟨0, 0, none⟩)]) (ws := [.win 3 0 7 true]) (n := 0) (m := 0) (t' := 14) (ra_cons rfl rfl ra_nil) rfl (by rfl) (r43_eq hy) rfl rfl rfl rfl (wb_win rfl rfl rfl ⟨rfl, Nat.le_of_ble_eq_true rfl⟩ rfl rfl wb_nil) an_nil rfl) ?_
    conv => whnf
    let t12 : Bool := !((k6.1.A == xo10.2.2.2.New.A) && ((k6.1.B == xo10.2.2.2.New.B) && true))
    refine br.h h ?_ ?_ ?_
    · rfl
    · clear h; intro hb h; conv => whnf
      all_goals (cases h; cases hc)
      all_goals exact Res.of [] rfl nw_0 (by decide) js_0 (wr_n wr_0)
    clear h; intro hb h; conv => whnf
    let t13 : Bool := !((xo11.1.A == xo10.2.2.2.Old.A) && ((xo11.1.B == xo10.2.2.2.Old.B) && true))
    refine br.h h ?_ ?_ ?_
    · rfl
    · clear h; intro hb h; conv => whnf
      all_goals (cases h; cases hc)
      all_goals exact Res.of [] rfl nw_0 (by decide) js_0 (wr_n wr_0)
    clear h; intro hb h; conv => whnf
    refine br.h h ?_ ?_ ?_
    · rfl
    · clear h; intro hb h; conv => whnf
      all_goals (cases h; cases hc)
      all_goals exact Res.of [] rfl nw_0 (by decide) js_0 (wr_n wr_0)
    clear h; intro hb h; conv => whnf
    refine br.h h ?_ ?_ ?_
    · rfl
    · clear h; intro hb h; conv => whnf
      all_goals (cases h; cases hc)
      all_goals exact Res.of [] rfl nw_0 (by decide) js_0 (wr_n wr_0)
    clear h; intro hb h; conv => whnf
    cases h; simp only [Sum.elim_inl, head6_1] at hc
    exact lrA0 hc [(0, 0), (1, 1), (3, 3), (7, 7), (10, 10)] rfl
  clear h; intro hb h; conv => whnf
  refine br.h2 h ?_ ?_ ?_
  · rfl
  · clear h; intro hb h; conv => whnf
    replace h := obind.elim h; obtain ⟨xo6, hy, h⟩ := h
    refine sumK.introF [3] (sumRun_of (aqs := [.pointer (some ⟨0, 0, none⟩), .agg ⟨[.int .i64 e.T.Proto, .bool e.T.Src.V6, .int .u64 e.T.Src.Hi, .int .u64 e.T.Src.Lo, .bool e.T.Dst.V6, .int .u64 e.T.Dst.Hi, .int .u64 e.T.Dst.Lo, .int .i64 e.T.SPort, .int .i64 e.T.DPort]⟩, .int .u64 e.Cookie]) (ws := [.win 3 0 7 true]) (n := 0) (m := 0) (t' := 12) (ra_cons rfl rfl (ra_cons rfl rfl (ra_cons rfl rfl ra_nil))) rfl (by rfl) (r40_eq hy) rfl rfl rfl rfl (wb_win rfl rfl rfl ⟨rfl, Nat.le_of_ble_eq_true rfl⟩ rfl rfl wb_nil) an_nil rfl) ?_
    conv => whnf
    replace h := obind.elim h; obtain ⟨xo7, hy, h⟩ := h
    refine sumK.introF [7] (sumRun_of (aqs := [.pointer (some ⟨0, 0, none⟩), .agg ⟨[.int .i64 e.T.Proto, .bool e.T.Src.V6, .int .u64 e.T.Src.Hi, .int .u64 e.T.Src.Lo, .bool e.T.Dst.V6, .int .u64 e.T.Dst.Hi, .int .u64 e.T.Dst.Lo, .int .i64 e.T.SPort, .int .i64 e.T.DPort]⟩, .int .u64 e.Cookie]) (ws := [.win 7 0 7 true]) (n := 0) (m := 0) (t' := 12) (ra_cons rfl rfl (ra_cons rfl rfl (ra_cons rfl rfl ra_nil))) rfl (by rfl) (r41_eq hy) rfl rfl rfl rfl (wb_win rfl rfl rfl ⟨rfl, Nat.le_of_ble_eq_true rfl⟩ rfl rfl wb_nil) an_nil rfl) ?_
    conv => whnf
    refine br.h h ?_ ?_ ?_
    · rfl
    · clear h; intro hb h; conv => whnf
      all_goals (cases h; cases hc)
      all_goals exact Res.of [] rfl nw_0 (by decide) js_0 (wr_n wr_0)
    clear h; intro hb h; conv => whnf
    refine br.h h ?_ ?_ ?_
    · rfl
    · clear h; intro hb h; conv => whnf
      all_goals (cases h; cases hc)
      all_goals exact Res.of [] rfl nw_0 (by decide) js_0 (wr_n wr_0)
    clear h; intro hb h; conv => whnf
    refine br.h h ?_ ?_ ?_
    · rfl
    · clear h; intro hb h; conv => whnf
      all_goals (cases h; cases hc)
      all_goals exact Res.of [] rfl nw_0 (by decide) js_0 (wr_n wr_0)
    clear h; intro hb h; conv => whnf
    replace h := obind.elim h; obtain ⟨xo8, hy, h⟩ := h
    refine sumK.introF [3] (sumRun_of (aqs := [.pointer (some ⟨0, 0, none⟩)]) (ws := [.win 3 0 7 true]) (n := 0) (m := 0) (t' := 12) (ra_cons rfl rfl ra_nil) rfl (by rfl) (r42_eq hy) rfl rfl rfl rfl (wb_win rfl rfl rfl ⟨rfl, Nat.le_of_ble_eq_true rfl⟩ rfl rfl wb_nil) an_nil rfl) ?_
    conv => whnf
    replace h := obind.elim h; obtain ⟨k5, hy, h⟩ := h
    refine sumK.introF [3] (sumRun_of (aqs := [.pointer (some ⟨0, 0, none⟩)]) (ws := [.win 3 0 7 true]) (n := 0) (m := 0) (t' := 14) (ra_cons rfl rfl ra_nil) rfl (by rfl) (r43_eq hy) rfl rfl rfl rfl (wb_win rfl rfl rfl ⟨rfl, Nat.le_of_ble_eq_true rfl⟩ rfl rfl wb_nil) an_nil rfl) ?_
    conv => whnf
    let t10 : Bool := !((k5.1.A == xo7.2.2.2.New.A) && ((k5.1.B == xo7.2.2.2.New.B) && true))
    refine br.h h ?_ ?_ ?_
    · rfl
    · clear h; intro hb h; conv => whnf
      all_goals (cases h; cases hc)
      all_goals exact Res.of [] rfl nw_0 (by decide) js_0 (wr_n wr_0)
    clear h; intro hb h; conv => whnf
    let t11 : Bool := !((xo8.1.A == xo7.2.2.2.Old.A) && ((xo8.1.B == xo7.2.2.2.Old.B) && true))
    refine br.h h ?_ ?_ ?_
    · rfl
    · clear h; intro hb h; conv => whnf
      all_goals (cases h; cases hc)
      all_goals exact Res.of [] rfl nw_0 (by decide) js_0 (wr_n wr_0)
    clear h; intro hb h; conv => whnf
    refine br.h h ?_ ?_ ?_
    · rfl
    · clear h; intro hb h; conv => whnf
      all_goals (cases h; cases hc)
      all_goals exact Res.of [] rfl nw_0 (by decide) js_0 (wr_n wr_0)
    clear h; intro hb h; conv => whnf
    refine br.h h ?_ ?_ ?_
    · rfl
    · clear h; intro hb h; conv => whnf
      all_goals (cases h; cases hc)
      all_goals exact Res.of [] rfl nw_0 (by decide) js_0 (wr_n wr_0)
    clear h; intro hb h; conv => whnf
    cases h; simp only [Sum.elim_inl, head6_1] at hc
    exact lrA0 hc [(0, 0), (1, 1), (3, 3), (7, 7), (10, 10)] rfl
  clear h; intro hb h; conv => whnf
  replace h := oreq.elim h; obtain ⟨hb, h⟩ := h
  first | (refine req.intro hb ?_; conv => whnf) | skip
  replace h := oreq.elim h; obtain ⟨hb, h⟩ := h
  first | (refine req.intro hb ?_; conv => whnf) | skip
  replace h := obind.elim h; obtain ⟨e1, hy, h⟩ := h
  refine rd.I hy (by first | rfl | (rw [Nat.zero_add, Nat.mul_one]; try rfl; done) | omega) ?_
  conv => whnf
  replace h := obind.elim h; obtain ⟨xo3, hy, h⟩ := h
  refine sumK.introF [3] (sumRun_of (aqs := [.pointer (some ⟨0, 0, none⟩), .agg ⟨[.int .i64 e.T.Proto, .bool e.T.Src.V6, .int .u64 e.T.Src.Hi, .int .u64 e.T.Src.Lo, .bool e.T.Dst.V6, .int .u64 e.T.Dst.Hi, .int .u64 e.T.Dst.Lo, .int .i64 e.T.SPort, .int .i64 e.T.DPort]⟩, .int .u64 e1]) (ws := [.win 3 0 7 true]) (n := 0) (m := 0) (t' := 12) (ra_cons rfl rfl (ra_cons rfl rfl (ra_cons rfl rfl ra_nil))) rfl (by rfl) (r40_eq hy) rfl rfl rfl rfl (wb_win rfl rfl rfl ⟨rfl, Nat.le_of_ble_eq_true rfl⟩ rfl rfl wb_nil) an_nil rfl) ?_
  conv => whnf
  replace h := obind.elim h; obtain ⟨xo4, hy, h⟩ := h
  refine sumK.introF [7] (sumRun_of (aqs := [.pointer (some ⟨0, 0, none⟩), .agg ⟨[.int .i64 e.T.Proto, .bool e.T.Src.V6, .int .u64 e.T.Src.Hi, .int .u64 e.T.Src.Lo, .bool e.T.Dst.V6, .int .u64 e.T.Dst.Hi, .int .u64 e.T.Dst.Lo, .int .i64 e.T.SPort, .int .i64 e.T.DPort]⟩, .int .u64 e1]) (ws := [.win 7 0 7 true]) (n := 0) (m := 0) (t' := 12) (ra_cons rfl rfl (ra_cons rfl rfl (ra_cons rfl rfl ra_nil))) rfl (by rfl) (r41_eq hy) rfl rfl rfl rfl (wb_win rfl rfl rfl ⟨rfl, Nat.le_of_ble_eq_true rfl⟩ rfl rfl wb_nil) an_nil rfl) ?_
  conv => whnf
  refine br.h h ?_ ?_ ?_
  · rfl
  · clear h; intro hb h; conv => whnf
    all_goals (cases h; cases hc)
    all_goals exact Res.of [] rfl nw_0 (by decide) js_0 (wr_n wr_0)
  clear h; intro hb h; conv => whnf
  refine br.h h ?_ ?_ ?_
  · rfl
  · clear h; intro hb h; conv => whnf
    all_goals (cases h; cases hc)
    all_goals exact Res.of [] rfl nw_0 (by decide) js_0 (wr_n wr_0)
  clear h; intro hb h; conv => whnf
  refine br.h h ?_ ?_ ?_
  · rfl
  · clear h; intro hb h; conv => whnf
    all_goals (cases h; cases hc)
    all_goals exact Res.of [] rfl nw_0 (by decide) js_0 (wr_n wr_0)
  clear h; intro hb h; conv => whnf
  replace h := obind.elim h; obtain ⟨xo5, hy, h⟩ := h
  refine sumK.introF [3] (sumRun_of (aqs := [.pointer (some ⟨0, 0, none⟩)]) (ws := [.win 3 0 7 true]) (n := 0) (m := 0) (t' := 12) (ra_cons rfl rfl ra_nil) rfl (by rfl) (r42_eq hy) rfl rfl rfl rfl (wb_win rfl rfl rfl ⟨rfl, Nat.le_of_ble_eq_true rfl⟩ rfl rfl wb_nil) an_nil rfl) ?_
  conv => whnf
  replace h := obind.elim h; obtain ⟨k4, hy, h⟩ := h
  refine sumK.introF [3] (sumRun_of (aqs := [.pointer (some ⟨0, 0, none⟩)]) (ws := [.win 3 0 7 true]) (n := 0) (m := 0) (t' := 14) (ra_cons rfl rfl ra_nil) rfl (by rfl) (r43_eq hy) rfl rfl rfl rfl (wb_win rfl rfl rfl ⟨rfl, Nat.le_of_ble_eq_true rfl⟩ rfl rfl wb_nil) an_nil rfl) ?_
  conv => whnf
  let t8 : Bool := !((k4.1.A == xo4.2.2.2.New.A) && ((k4.1.B == xo4.2.2.2.New.B) && true))
  refine br.h h ?_ ?_ ?_
  · rfl
  · clear h; intro hb h; conv => whnf
    all_goals (cases h; cases hc)
    all_goals exact Res.of [] rfl nw_0 (by decide) js_0 (wr_n wr_0)
  clear h; intro hb h; conv => whnf
  let t9 : Bool := !((xo5.1.A == xo4.2.2.2.Old.A) && ((xo5.1.B == xo4.2.2.2.Old.B) && true))
  refine br.h h ?_ ?_ ?_
  · rfl
  · clear h; intro hb h; conv => whnf
    all_goals (cases h; cases hc)
    all_goals exact Res.of [] rfl nw_0 (by decide) js_0 (wr_n wr_0)
  clear h; intro hb h; conv => whnf
  refine br.h h ?_ ?_ ?_
  · rfl
  · clear h; intro hb h; conv => whnf
    all_goals (cases h; cases hc)
    all_goals exact Res.of [] rfl nw_0 (by decide) js_0 (wr_n wr_0)
  clear h; intro hb h; conv => whnf
  refine br.h h ?_ ?_ ?_
  · rfl
  · clear h; intro hb h; conv => whnf
    all_goals (cases h; cases hc)
    all_goals exact Res.of [] rfl nw_0 (by decide) js_0 (wr_n wr_0)
  clear h; intro hb h; conv => whnf
  cases h; simp only [Sum.elim_inl, head6_1] at hc
  exact lrA0 hc [(0, 0), (1, 1), (3, 3), (7, 7), (10, 10)] rfl
theorem leads6 (R32_Make : api_Key → api_Tuple → Int → Option Int) (R54_Keys_Go : R54_Keys → Int → Option (Int × R54_Keys)) (R54_Keys_Open : R54_Keys → api_Tuple → Int → Option (Int × Bool × Bool × R54_Keys)) (R54_Keys_Turn : R54_Keys → Int → Option (Int × R54_Keys)) (R54_Next : api_Key → Option api_Key) (law54_awake : Option Bool) (rekey_Keys_Go : rekey_Keys → Int → Option (Int × rekey_Keys)) (rekey_Keys_Key : rekey_Keys → Option (api_Key × rekey_Keys)) (rekey_Keys_Key_nil : Option api_Key) (rekey_Keys_Make : rekey_Keys → api_Tuple → Int → Option (Int × rekey_Keys)) (rekey_Keys_Old : rekey_Keys → Option (api_Key × Int × Bool × rekey_Keys)) (rekey_Keys_Open : rekey_Keys → api_Tuple → Int → Option (Int × Bool × Bool × rekey_Keys)) (rekey_Keys_Open_nil : api_Tuple → Int → Option (Int × Bool × Bool)) (rekey_Keys_Turn : rekey_Keys → Int → Option (Int × rekey_Keys)) (rekey_Keys_Turn_nil : Int → Option Int) (rekey_New : api_Key → Option rekey_Keys) (rekey_Next : api_Key → Option api_Key) (hS : SumsOK Try.prog (aget (sums6 R32_Make R54_Keys_Go R54_Keys_Open R54_Keys_Turn R54_Next law54_awake rekey_Keys_Go rekey_Keys_Key rekey_Keys_Key_nil rekey_Keys_Make rekey_Keys_Old rekey_Keys_Open rekey_Keys_Open_nil rekey_Keys_Turn rekey_Keys_Turn_nil rekey_New rekey_Next))) (k : api_Key) (l : List R54_Step) (res : Bool) (h : law54_RekeyPlaysF R32_Make R54_Keys_Go R54_Keys_Open R54_Keys_Turn R54_Next law54_awake rekey_Keys_Go rekey_Keys_Key rekey_Keys_Key_nil rekey_Keys_Make rekey_Keys_Old rekey_Keys_Open rekey_Keys_Open_nil rekey_Keys_Turn rekey_Keys_Turn_nil rekey_New rekey_Next k l = some res) :
    Leads Try.prog 6 1 ⟨⟨6, 181, [(0, .agg ⟨[.int .u64 k.A, .int .u64 k.B]⟩), (1, .slice (some ⟨0, 0, none⟩) l.length 13)], [.code k6_82], [], false, none⟩, [], [(0, .row false (vT cR54_Step l))], 1⟩ (fun v H _ => Res 1 (rx6 res) v H) := by
  unfold law54_RekeyPlaysF at h
  refine ev_ok tab_ok hS true 3000 ?_
  conv => whnf
  refine br.h h ?_ ?_ ?_
  · rfl
  · clear h; intro hb h; conv => whnf
    replace h := obind.elim h; obtain ⟨a, hy, h⟩ := h
    refine sumK.q rfl rfl (r32_eq hy) rfl rfl rfl ?_
    conv => whnf
    all_goals (cases h)
    all_goals exact Res.of [] rfl nw_0 (by decide) js_0 (wr_n wr_0)
  clear h; intro hb h; conv => whnf
  replace h := obind.elim h; obtain ⟨n, hy, h⟩ := h
  refine sumK.introF [3] (sumRun_of (aqs := [.agg ⟨[.int .u64 k.A, .int .u64 k.B]⟩]) (ws := []) (n := 1) (m := 0) (t' := 4) (ra_cons rfl rfl ra_nil) rfl (by rfl) (r33_eq hy) rfl rfl rfl rfl wb_nil (an_cons (rfl) an_nil) rfl) ?_
  conv => whnf
  have hl := loop6_1 R32_Make R54_Keys_Go R54_Keys_Open R54_Keys_Turn R54_Next law54_awake rekey_Keys_Go rekey_Keys_Key rekey_Keys_Key_nil rekey_Keys_Make rekey_Keys_Old rekey_Keys_Open rekey_Keys_Open_nil rekey_Keys_Turn rekey_Keys_Turn_nil rekey_New rekey_Next hS _ _ res _ _ _ h rfl; simp only [head6_1] at hl
  refine Leads.nilT 7 1 ?_
  exact lrA0 hl [(0, 0), (1, 1), (3, 3), (7, 7), (10, 10)] rfl
def law54_RekeyPlays : api_Key → (List R54_Step) → Option Bool := law54_RekeyPlaysF R32_Make R54_Keys_Go R54_Keys_Open R54_Keys_Turn R54_Next law54_awake rekey_Keys_Go rekey_Keys_Key rekey_Keys_Key_nil rekey_Keys_Make rekey_Keys_Old rekey_Keys_Open rekey_Keys_Open_nil rekey_Keys_Turn rekey_Keys_Turn_nil rekey_New rekey_Next
end Go.Vm.Code
namespace Go.Vm.Code
open Go Go.Vm
def nextK (k : api_Key) : api_Key := ⟨hashR tak finQ 1 (newV k).s [1], hashR tak finQ 1 (newV k).s [2]⟩
theorem pnext_eq (k : api_Key) : rekey_Next k = some (nextK k) := by
  unfold rekey_Next rekey_NextF
  rw [Hash_R (by decide), Option.bind_some, Hash_R (by decide), Option.bind_some]; rfl
theorem rnext_eq (k : api_Key) : R54_Next k = some (nextK k) := by
  unfold R54_Next R54_NextF
  rw [R12_Hash_eq (by decide), Option.bind_some, R12_Hash_eq (by decide), Option.bind_some]; rfl
def xof (r : rekey_Keys) : R54_Keys := ⟨r.keys.e0, if r.some_ = 2 then r.keys.e1 else ⟨0, 0⟩, decide (r.some_ = 2), if r.some_ = 2 then r.until_ else 0, r.now⟩
structure KI (r : rekey_Keys) : Prop where
  n : r.some_ = 1 ∨ r.some_ = 2
  t0 : 0 ≤ r.now
  t1 : r.now ≤ 1099511627776
  u0 : 0 ≤ r.until_
  u1 : r.until_ ≤ 1099512676352
theorem kgiven {r : rekey_Keys} (h : KI r) : rekey_Keys_given r = some (true, r) := by
  unfold rekey_Keys_given rekey_Keys_givenF
  rw [decide_eq_true (by have := h.n; omega)]
theorem kkey {r : rekey_Keys} (h : KI r) : rekey_Keys_Key r = some (r.keys.e0, r) := by
  unfold rekey_Keys_Key rekey_Keys_KeyF
  rw [kgiven h, Option.bind_some]; rfl
theorem kold {r : rekey_Keys} (h : KI r) : rekey_Keys_Old r = some ((xof r).Old, (xof r).Until, (xof r).Has, r) := by
  unfold rekey_Keys_Old rekey_Keys_OldF xof
  rw [kgiven h, Option.bind_some]
  simp only [Bool.not_true, cond_false]
  rcases h.n with e | e
  · rw [cond_p (by omega), if_neg (by omega), if_neg (by omega), decide_eq_false (by omega)]
  · rw [cond_n (by omega), if_pos e, if_pos e, decide_eq_true e]
theorem kmake {r : rekey_Keys} (h : KI r) {t : api_Tuple} {id : Int} (hi : -2 ^ 63 ≤ id ∧ id < 2 ^ 63) (hs : inU t.Src) (hd : inU t.Dst) : rekey_Keys_Make r t id = some (ckI r.keys.e0 t id, r) := by
  unfold rekey_Keys_Make rekey_Keys_MakeF
  rw [kgiven h, Option.bind_some]
  simp only [Bool.not_true, cond_false]
  rw [smake_eq hi hs hd, Option.bind_some]
def turnK (r : rekey_Keys) (n : Int) : Int × rekey_Keys := if 1 ≤ n ∧ n ≤ 1048576 then (if r.some_ = 2 then (11, r) else (0, ⟨⟨nextK r.keys.e0, r.keys.e0⟩, 2, r.now + n, r.now⟩)) else (1, r)
theorem turn_KI {r : rekey_Keys} (h : KI r) (n : Int) : KI (turnK r n).2 := by
  unfold turnK
  split
  · split
    · exact h
    · have := h.t0; have := h.t1
      exact ⟨.inr rfl, h.t0, h.t1, by simp only []; omega, by simp only []; omega⟩
  · exact h
theorem kturn {r : rekey_Keys} (h : KI r) (n : Int) : rekey_Keys_Turn r n = some (turnK r n) := by
  unfold rekey_Keys_Turn rekey_Keys_TurnF turnK
  rw [kgiven h, Option.bind_some]
  simp only [Bool.not_true, cond_false]
  by_cases h1 : n < 1
  · rw [cond_p h1, if_neg (by omega)]
  · rw [cond_n h1]
    by_cases h2 : n > 1048576
    · rw [cond_p h2, if_neg (by omega)]
    · rw [cond_n h2, if_pos (by omega)]
      by_cases h3 : r.some_ = 2
      · rw [show (r.some_ == 2) = true from by simpa using h3, cond_true, if_pos h3]
      · have := h.t0; have := h.t1
        rw [show (r.some_ == 2) = false from by simpa using h3, cond_false, if_neg h3, pnext_eq, Option.bind_some, wI64 (by omega) (by omega)]
theorem rturn {r : rekey_Keys} (h : KI r) (n : Int) : R54_Keys_Turn (xof r) n = some ((turnK r n).1, xof (turnK r n).2) := by
  unfold R54_Keys_Turn R54_Keys_TurnF turnK
  by_cases h1 : n < 1
  · rw [cond_p h1, if_neg (by omega)]
  · rw [cond_n h1]
    by_cases h2 : n > 1048576
    · rw [cond_p h2, if_neg (by omega)]
    · rw [cond_n h2, if_pos (by omega)]
      by_cases h3 : r.some_ = 2
      · rw [show (xof r).Has = true from by simp [xof, h3], cond_true, if_pos h3]
      · have := h.t0; have := h.t1
        rw [show (xof r).Has = false from by simp [xof, h3], cond_false, if_neg h3, rnext_eq, Option.bind_some]
        show some ((0 : Int), R54_Keys.mk (nextK r.keys.e0) r.keys.e0 true (wI .i64 (r.now + n)) r.now) = _
        rw [wI64 (by omega) (by omega)]; rfl
def goK (r : rekey_Keys) (now : Int) : Int × rekey_Keys := if r.now ≤ now ∧ now ≤ 1099511627776 then (0, ⟨r.keys, if r.some_ = 2 ∧ r.until_ ≤ now then 1 else r.some_, r.until_, now⟩) else (15, r)
theorem go_KI {r : rekey_Keys} (h : KI r) (n : Int) : KI (goK r n).2 := by
  unfold goK
  split
  · have := h.t0
    refine ⟨?_, by simp only []; omega, by simp only []; omega, h.u0, h.u1⟩
    simp only []
    split
    · exact .inl rfl
    · exact h.n
  · exact h
theorem kgo {r : rekey_Keys} (h : KI r) (n : Int) : rekey_Keys_Go r n = some (goK r n) := by
  unfold rekey_Keys_Go rekey_Keys_GoF goK
  rw [kgiven h, Option.bind_some]
  simp only [Bool.not_true, cond_false]
  by_cases h1 : n < r.now
  · rw [cond_p h1, if_neg (by omega)]
  · rw [cond_n h1]
    by_cases h2 : n > 1099511627776
    · rw [cond_p h2, if_neg (by omega)]
    · rw [cond_n h2, if_pos (by omega)]
      by_cases h3 : r.some_ = 2
      · rw [show (r.some_ == 2) = true from by simpa using h3, cond_true]
        by_cases h4 : r.until_ ≤ n
        · rw [cond_p h4, if_pos ⟨h3, h4⟩]
        · rw [cond_n h4, if_neg (fun c => h4 c.2)]
      · rw [show (r.some_ == 2) = false from by simpa using h3, cond_false, if_neg (fun c => h3 c.1)]
theorem rgo {r : rekey_Keys} (h : KI r) (n : Int) : R54_Keys_Go (xof r) n = some ((goK r n).1, xof (goK r n).2) := by
  unfold R54_Keys_Go R54_Keys_GoF goK
  show cond (decide (n < r.now)) _ _ = _
  by_cases h1 : n < r.now
  · rw [cond_p h1, if_neg (by omega)]
  · rw [cond_n h1]
    by_cases h2 : n > 1099511627776
    · rw [cond_p h2, if_neg (by omega)]
    · rw [cond_n h2, if_pos (by omega)]
      by_cases h3 : r.some_ = 2
      · rw [show (xof r).Has = true from by simp [xof, h3], cond_true, show (xof r).Until = r.until_ from by simp [xof, h3]]
        by_cases h4 : r.until_ ≤ n
        · rw [cond_p h4, if_pos ⟨h3, h4⟩]; simp [xof]
        · rw [cond_n h4, if_neg (fun c => h4 c.2)]; simp [xof, h3]
      · rw [show (xof r).Has = false from by simp [xof, h3], cond_false, if_neg (fun c => h3 c.1)]; simp [xof, h3]
def openK (r : rekey_Keys) (t : api_Tuple) (c : Nat) : Int × Bool × Bool :=
  if (opI r.keys.e0 t c).2 = true then ((opI r.keys.e0 t c).1, false, true) else if r.some_ = 2 ∧ (opI r.keys.e1 t c).2 = true then ((opI r.keys.e1 t c).1, true, true) else (0, false, false)
theorem kopen {r : rekey_Keys} (h : KI r) {t : api_Tuple} {c : Nat} (hc : c < 2 ^ 64) (hs : inU t.Src) (hd : inU t.Dst) : rekey_Keys_Open r t (c : Int) = some ((openK r t c).1, (openK r t c).2.1, (openK r t c).2.2, r) := by
  unfold rekey_Keys_Open rekey_Keys_OpenF openK
  have hn := h.n
  rw [kgiven h, Option.bind_some]
  simp only [Bool.not_true, cond_false]
  rw [oreq_p (by omega), cond_p (by omega), oreq_p (by omega), sopen_eq hc hs hd, Option.bind_some]
  cases h0 : (opI r.keys.e0 t c).2 with
  | true => rfl
  | false =>
    simp only [cond_false, Bool.false_eq_true, ↓reduceIte]
    rcases hn with e | e
    · rw [cond_n (by omega), if_neg (by omega)]
    · rw [cond_p (by omega), oreq_p (by omega), sopen_eq hc hs hd, Option.bind_some]
      cases h1 : (opI r.keys.e1 t c).2 with
      | true => rw [if_pos ⟨e, rfl⟩]; rfl
      | false => rw [if_neg (by simp)]; simp only [cond_false]; rw [cond_n (by omega)]
theorem ropen {r : rekey_Keys} (h : KI r) {t : api_Tuple} {c : Nat} (hc : c < 2 ^ 64) (hs : inU t.Src) (hd : inU t.Dst) : R54_Keys_Open (xof r) t (c : Int) = some ((openK r t c).1, (openK r t c).2.1, (openK r t c).2.2, xof r) := by
  unfold R54_Keys_Open R54_Keys_OpenF openK
  show (R32_Open r.keys.e0 t c).bind _ = _
  rw [ropen_eq hc hs hd, Option.bind_some]
  cases h0 : (opI r.keys.e0 t c).2 with
  | true => rfl
  | false =>
    simp only [cond_false, Bool.false_eq_true, ↓reduceIte]
    by_cases e : r.some_ = 2
    · rw [show (xof r).Has = true from by simp [xof, e], cond_true, show (xof r).Old = r.keys.e1 from by simp [xof, e], ropen_eq hc hs hd, Option.bind_some]
      cases h1 : (opI r.keys.e1 t c).2 with
      | true => rw [if_pos ⟨e, rfl⟩]; rfl
      | false => rw [if_neg (by simp)]; rfl
    · rw [show (xof r).Has = false from by simp [xof, e], cond_false, if_neg (fun q => e q.1)]
theorem awake54 : law54_awake = some true := by decide +kernel
theorem end54 {α : Type} {r : rekey_Keys} (h : KI r) (f : Option α) (K : rekey_Keys → Option α) :
    ((rekey_Keys_Old r).bind fun xo => (rekey_Keys_Key xo.2.2.2).bind fun k1 =>
      cond (!((k1.1.A == (xof r).New.A) && ((k1.1.B == (xof r).New.B) && true))) f
        (cond (!((xo.1.A == (xof r).Old.A) && ((xo.1.B == (xof r).Old.B) && true))) f
          (cond (xo.2.1 != (xof r).Until) f (cond (!(xo.2.2.1 == (xof r).Has)) f (K k1.2))))) = K r := by
  rw [kold h, Option.bind_some]
  show ((rekey_Keys_Key r).bind _) = _
  rw [kkey h, Option.bind_some]
  simp [show (xof r).New = r.keys.e0 from rfl]
abbrev KT := Int × Int × Int × Int × Int × Int × Int × Int × Int × Int × Int × Int × Bool × Int × Int × (List Int)
def keySt (i : Nat) (r : rekey_Keys) (x : R54_Keys) (made : List Int) : KT :=
  ((i : Int), r.keys.e0.A, r.keys.e0.B, r.keys.e1.A, r.keys.e1.B, r.some_, r.until_, r.now, x.New.A, x.New.B, x.Old.A, x.Old.B, x.Has, x.Until, x.Now, made)
def stepOK (s : R54_Step) : Prop := (-2 ^ 63 ≤ s.N ∧ s.N < 2 ^ 63) ∧ (0 ≤ s.Cookie ∧ s.Cookie < 2 ^ 64) ∧ inU s.T.Src ∧ inU s.T.Dst
theorem rekey_round {k : api_Key} {l : List R54_Step} (hl : l.length ≤ 30) (hok : ∀ s ∈ l, stepOK s) {i : Nat} (hi : i < l.length) {r : rekey_Keys} (h : KI r) {made : List Int} (hm : made.length ≤ i) (hmr : ∀ c ∈ made, 0 ≤ c ∧ c < 2 ^ 64) :
    ∃ r' made', KI r' ∧ made'.length ≤ i + 1 ∧ (∀ c ∈ made', (0 : Int) ≤ c ∧ c < 2 ^ 64) ∧
      law54_RekeyPlays_s1 R32_Make R54_Keys_Go R54_Keys_Open R54_Keys_Turn R54_Next (some true) rekey_Keys_Go rekey_Keys_Key rekey_Keys_Make rekey_Keys_Old rekey_Keys_Open rekey_Keys_Turn rekey_Next k l i r.keys.e0.A r.keys.e0.B r.keys.e1.A r.keys.e1.B r.some_ r.until_ r.now (xof r).New.A (xof r).New.B (xof r).Old.A (xof r).Old.B (xof r).Has (xof r).Until (xof r).Now made = some (.inl (keySt (i + 1) r' (xof r') made')) := by
  unfold law54_RekeyPlays_s1
  have er : rekey_Keys.mk (Arr2_api_Key.mk (api_Key.mk r.keys.e0.A r.keys.e0.B) (api_Key.mk r.keys.e1.A r.keys.e1.B)) r.some_ r.until_ r.now = r := rfl
  have ex : R54_Keys.mk (api_Key.mk (xof r).New.A (xof r).New.B) (api_Key.mk (xof r).Old.A (xof r).Old.B) (xof r).Has (xof r).Until (xof r).Now = xof r := rfl
  have ek : api_Key.mk (xof r).New.A (xof r).New.B = r.keys.e0 := rfl
  have hs := hok l[i] (List.getElem_mem hi)
  rw [cond_p (by omega), oreq_p ⟨by omega, by omega⟩, Int.toNat_natCast, List.getElem?_eq_getElem hi, Option.bind_some, er, ex, ek, wI64 (n := (i : Int) + 1) (by omega) (by omega)]
  generalize l[i] = e at hs
  obtain ⟨hN, hC, hS, hD⟩ := hs
  have ec : (i : Int) + 1 = ((i + 1 : Nat) : Int) := by omega
  rw [ec]
  have opened : ∀ c : Int, 0 ≤ c ∧ c < 2 ^ 64 → ∀ X : Option (Sum KT Bool), X = ((rekey_Keys_Open r e.T c).bind fun xo3 =>
      (R54_Keys_Open (xof r) e.T c).bind fun xo4 =>
      cond (xo3.1 != xo4.1) (some (.inr (false)))
        (cond (!(xo3.2.1 == xo4.2.1)) (some (.inr (false)))
          (cond (!(xo3.2.2.1 == xo4.2.2.1)) (some (.inr (false)))
            ((rekey_Keys_Old xo3.2.2.2).bind fun xo5 =>
            (rekey_Keys_Key xo5.2.2.2).bind fun k4 =>
            cond (!((k4.1.A == xo4.2.2.2.New.A) && ((k4.1.B == xo4.2.2.2.New.B) && true))) (some (.inr (false)))
              (cond (!((xo5.1.A == xo4.2.2.2.Old.A) && ((xo5.1.B == xo4.2.2.2.Old.B) && true))) (some (.inr (false)))
                (cond (xo5.2.1 != xo4.2.2.2.Until) (some (.inr (false)))
                  (cond (!(xo5.2.2.1 == xo4.2.2.2.Has)) (some (.inr (false)))
                    (some (.inl (((i + 1 : Nat) : Int), k4.2.keys.e0.A, k4.2.keys.e0.B, k4.2.keys.e1.A, k4.2.keys.e1.B, k4.2.some_, k4.2.until_, k4.2.now, xo4.2.2.2.New.A, xo4.2.2.2.New.B, xo4.2.2.2.Old.A, xo4.2.2.2.Old.B, xo4.2.2.2.Has, xo4.2.2.2.Until, xo4.2.2.2.Now, made)))))))))) →
      ∃ r' made', KI r' ∧ made'.length ≤ i + 1 ∧ (∀ c ∈ made', (0 : Int) ≤ c ∧ c < 2 ^ 64) ∧ X = some (.inl (keySt (i + 1) r' (xof r') made')) := by
    rintro c ⟨c0, c1⟩ X rfl
    obtain ⟨n, rfl⟩ := Int.eq_ofNat_of_zero_le c0
    refine ⟨r, made, h, by omega, hmr, ?_⟩
    rw [kopen h (by omega) hS hD, Option.bind_some, ropen h (by omega) hS hD, Option.bind_some]
    simp only [bne_self_eq_false, cond_false, BEq.rfl, Bool.not_true]
    exact end54 h (some (Sum.inr false)) (fun q => some (Sum.inl (((i + 1 : Nat) : Int), q.keys.e0.A, q.keys.e0.B, q.keys.e1.A, q.keys.e1.B, q.some_, q.until_, q.now, (xof r).New.A, (xof r).New.B, (xof r).Old.A, (xof r).Old.B, (xof r).Has, (xof r).Until, (xof r).Now, made)))
  cases h0 : e.Kind == 0 with
  | true =>
    have h' := turn_KI h e.N
    rw [cond_true, kturn h, Option.bind_some, rturn h, Option.bind_some]
    simp only [bne_self_eq_false, cond_false]
    refine ⟨_, made, h', by omega, hmr, ?_⟩
    exact end54 h' (some (Sum.inr false)) (fun q => some (Sum.inl (((i + 1 : Nat) : Int), q.keys.e0.A, q.keys.e0.B, q.keys.e1.A, q.keys.e1.B, q.some_, q.until_, q.now, (xof (turnK r e.N).2).New.A, (xof (turnK r e.N).2).New.B, (xof (turnK r e.N).2).Old.A, (xof (turnK r e.N).2).Old.B, (xof (turnK r e.N).2).Has, (xof (turnK r e.N).2).Until, (xof (turnK r e.N).2).Now, made)))
  | false =>
  rw [cond_false]
  cases h1 : e.Kind == 1 with
  | true =>
    have h' := go_KI h e.N
    rw [cond_true, kgo h, Option.bind_some, rgo h, Option.bind_some]
    simp only [bne_self_eq_false, cond_false]
    refine ⟨_, made, h', by omega, hmr, ?_⟩
    exact end54 h' (some (Sum.inr false)) (fun q => some (Sum.inl (((i + 1 : Nat) : Int), q.keys.e0.A, q.keys.e0.B, q.keys.e1.A, q.keys.e1.B, q.some_, q.until_, q.now, (xof (goK r e.N).2).New.A, (xof (goK r e.N).2).New.B, (xof (goK r e.N).2).Old.A, (xof (goK r e.N).2).Old.B, (xof (goK r e.N).2).Has, (xof (goK r e.N).2).Until, (xof (goK r e.N).2).Now, made)))
  | false =>
  rw [cond_false]
  cases h2 : e.Kind == 2 with
  | true =>
    rw [cond_true, rmake_eq hS hD, Option.bind_some, kmake h hN hS hD, Option.bind_some]
    simp only [bne_self_eq_false, cond_false]
    rw [oreq_p (by omega)]
    refine ⟨r, made ++ [ckI r.keys.e0 e.T e.N], h, by simp; omega, ?_, ?_⟩
    · intro c hc
      rcases List.mem_append.1 hc with hc | hc
      · exact hmr c hc
      · rw [List.mem_singleton.1 hc]; exact ckI_rng _ _ _
    · exact end54 h (some (Sum.inr false)) (fun q => some (Sum.inl (((i + 1 : Nat) : Int), q.keys.e0.A, q.keys.e0.B, q.keys.e1.A, q.keys.e1.B, q.some_, q.until_, q.now, (xof r).New.A, (xof r).New.B, (xof r).Old.A, (xof r).Old.B, (xof r).Has, (xof r).Until, (xof r).Now, made ++ [ckI r.keys.e0 e.T e.N])))
  | false =>
  rw [cond_false]
  by_cases hp : e.Pick ≥ 0
  · rw [cond_p hp]
    by_cases hl0 : (made.length : Int) > 0
    · rw [cond_p hl0, show (!decide ((made.length : Int) = 0)) = true from by rw [decide_eq_false (by omega)]; rfl, oreq.mk rfl]
      have q0 : 0 ≤ e.Pick.tmod (made.length : Int) := Int.tmod_nonneg _ hp
      have q1 : e.Pick.tmod (made.length : Int) < made.length := Int.tmod_lt_of_pos _ hl0
      rw [oreq_p ⟨q0, q1⟩]
      have hlt : (e.Pick.tmod (made.length : Int)).toNat < made.length := by omega
      rw [List.getElem?_eq_getElem hlt, Option.bind_some]
      exact opened _ (hmr _ (List.getElem_mem hlt)) _ rfl
    · rw [cond_n hl0]
      exact opened _ hC _ rfl
  · rw [cond_n hp]
    exact opened _ hC _ rfl
theorem newKI (k : api_Key) : KI ⟨⟨k, ⟨0, 0⟩⟩, 1, 0, 0⟩ := ⟨.inl rfl, by simp, by simp, by simp, by simp⟩
theorem rekeyPlays (k : api_Key) (l : List R54_Step) (hok : ∀ s ∈ l, stepOK s) : law54_RekeyPlays k l = some true := by
  unfold law54_RekeyPlays law54_RekeyPlaysF
  rw [awake54, Option.bind_some]
  by_cases hl : (l.length : Int) > 30
  · rw [cond_p hl]
  rw [cond_n hl]
  rw [show rekey_New k = some ⟨⟨k, ⟨0, 0⟩⟩, 1, 0, 0⟩ from rfl, Option.bind_some]
  refine iter_eq (fun _ => true) (fun st => ∃ (i : Nat) (r : rekey_Keys) (made : List Int), i ≤ l.length ∧ KI r ∧ made.length ≤ i ∧ (∀ c ∈ made, (0 : Int) ≤ c ∧ c < 2 ^ 64) ∧ st = keySt i r (xof r) made) (fun st => l.length - st.1.toNat) ?_ FUEL _ ⟨0, ⟨⟨k, ⟨0, 0⟩⟩, 1, 0, 0⟩, [], by omega, newKI k, by simp, by simp, rfl⟩ (by rw [FUEL_eq]; simp only []; omega)
  rintro s ⟨i, r, made, hi, h, hm, hmr, rfl⟩
  rcases Nat.lt_or_ge i l.length with hlt | hge
  · right
    obtain ⟨r', made', h', hm', hmr', e⟩ := rekey_round (k := k) (by omega) hok hlt h hm hmr
    refine ⟨_, e, ⟨i + 1, r', made', by omega, h', hm', hmr', rfl⟩, ?_, by trivial⟩
    simp only [keySt]; omega
  · left
    simp only [keySt]
    unfold law54_RekeyPlays_s1
    rw [cond_n (by omega), pnext_eq, Option.bind_some, rnext_eq, Option.bind_some]
    simp
end Go.Vm.Code
