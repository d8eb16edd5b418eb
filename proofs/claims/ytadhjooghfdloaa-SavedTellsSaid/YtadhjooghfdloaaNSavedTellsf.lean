import Derived.Test.YtadhjooghfdloaaNSavedTellse
namespace Go.Vm.Code
open Go Go.Vm Go.Proofs
set_option maxRecDepth 100000
set_option maxHeartbeats 4000000
set_option linter.unusedVariables false
def law55_SavedTellsF (R55_Get : (List UInt8) → Option (saved_Record × Int)) (R55_Of : api_Key → Int → (List api_Backend) → Option saved_Record) (R55_Put : saved_Record → Option ((List UInt8) × Int)) (R55_Right : saved_Record → Option Bool) (R55_Same : saved_Record → saved_Record → Option Bool) (law55_awake : Option Bool) (law55_back : saved_Record → Option saved_Record) (law55_of : saved_Record → Option saved_Record) (saved_Get : (List UInt8) → Option (saved_Record × Int)) (saved_Of : api_Key → Int → (List api_Backend) → Option saved_Record) (saved_Put : saved_Record → Option ((List UInt8) × Int)) (saved_Right : saved_Record → Option Bool) (saved_Same : saved_Record → saved_Record → Option Bool) (ra0 : saved_Record) (x : saved_Record) (s : List UInt8) : Option Bool :=
  cond (decide ((ra0.L.length : Int) > 70))
    (
    (law55_awake).bind fun a =>
    some (a))
    (
    cond (decide ((x.L.length : Int) > 70))
      (
      (law55_awake).bind fun a1 =>
      some (a1))
      (
      cond (decide ((s.length : Int) > 800))
        (
        (law55_awake).bind fun a2 =>
        some (a2))
        (
        (law55_of ra0).bind fun xo =>
        oreq (decide (xo.L = ra0.L)) <|
        (saved_Put (saved_Record.mk xo.Key xo.Last ra0.L)).bind fun p =>
        (R55_Put ra0).bind fun p1 =>
        (saved_Get s).bind fun xg =>
        (R55_Get s).bind fun xg1 =>
        (law55_of ra0).bind fun xo1 =>
        oreq (decide (xo1.L = ra0.L)) <|
        (saved_Right (saved_Record.mk xo1.Key xo1.Last ra0.L)).bind fun xr =>
        (R55_Right ra0).bind fun xr1 =>
        cond (xr == xr1)
          (
          cond (p.1 == p1.1)
            (
            cond (p.2 == p1.2)
              (
              (law55_back xg.1).bind fun b =>
              oreq (decide (b.L = xg.1.L)) <|
              (R55_Same (saved_Record.mk b.Key b.Last xg.1.L) xg1.1).bind fun s1 =>
              cond (s1)
                (
                cond (xg.2 == xg1.2)
                  (
                  (saved_Of ra0.Key ra0.Last ra0.L).bind fun xo2 =>
                  (law55_back xo2).bind fun b1 =>
                  oreq (decide (b1.L = xo2.L)) <|
                  (R55_Of ra0.Key ra0.Last ra0.L).bind fun xo3 =>
                  (R55_Same (saved_Record.mk b1.Key b1.Last xo2.L) xo3).bind fun s2 =>
                  cond (s2)
                    (
                    (law55_of ra0).bind fun xo4 =>
                    oreq (decide (xo4.L = ra0.L)) <|
                    (law55_of x).bind fun xo5 =>
                    oreq (decide (xo5.L = x.L)) <|
                    (saved_Same (saved_Record.mk xo4.Key xo4.Last ra0.L) (saved_Record.mk xo5.Key xo5.Last x.L)).bind fun s3 =>
                    (R55_Same ra0 x).bind fun s4 =>
                    cond (s3 == s4)
                      (
                      (law55_awake).bind fun a3 =>
                      some (a3))
                      (
                      some (false)))
                    (
                    some (false)))
                  (
                  some (false)))
                (
                some (false)))
              (
              some (false)))
            (
            some (false)))
          (
          some (false)))))
def rx9 (x : Bool) : SRes := ⟨.bool x, [], [none, none]⟩
abbrev sums9 (R55_Get : (List UInt8) → Option (saved_Record × Int)) (R55_Of : api_Key → Int → (List api_Backend) → Option saved_Record) (R55_Put : saved_Record → Option ((List UInt8) × Int)) (R55_Right : saved_Record → Option Bool) (R55_Same : saved_Record → saved_Record → Option Bool) (law55_awake : Option Bool) (law55_back : saved_Record → Option saved_Record) (law55_of : saved_Record → Option saved_Record) (saved_Get : (List UInt8) → Option (saved_Record × Int)) (saved_Of : api_Key → Int → (List api_Backend) → Option saved_Record) (saved_Put : saved_Record → Option ((List UInt8) × Int)) (saved_Right : saved_Record → Option Bool) (saved_Same : saved_Record → saved_Record → Option Bool) : List (Nat × Summ) := [(50, s50 R55_Get), (59, s59 R55_Of), (55, s55 R55_Put), (57, s57 R55_Right), (51, s51 R55_Same), (47, s47 law55_awake), (52, s52 law55_back), (54, s54 law55_of), (48, s48 saved_Get), (58, s58 saved_Of), (53, s53 saved_Put), (56, s56 saved_Right), (60, s60 saved_Same)]
theorem leads9 (R55_Get : (List UInt8) → Option (saved_Record × Int)) (R55_Of : api_Key → Int → (List api_Backend) → Option saved_Record) (R55_Put : saved_Record → Option ((List UInt8) × Int)) (R55_Right : saved_Record → Option Bool) (R55_Same : saved_Record → saved_Record → Option Bool) (law55_awake : Option Bool) (law55_back : saved_Record → Option saved_Record) (law55_of : saved_Record → Option saved_Record) (saved_Get : (List UInt8) → Option (saved_Record × Int)) (saved_Of : api_Key → Int → (List api_Backend) → Option saved_Record) (saved_Put : saved_Record → Option ((List UInt8) × Int)) (saved_Right : saved_Record → Option Bool) (saved_Same : saved_Record → saved_Record → Option Bool) (hS : SumsOK Try.prog (aget (sums9 R55_Get R55_Of R55_Put R55_Right R55_Same law55_awake law55_back law55_of saved_Get saved_Of saved_Put saved_Right saved_Same))) (ra0 : saved_Record) (x : saved_Record) (s : List UInt8) (res : Bool) (h : law55_SavedTellsF R55_Get R55_Of R55_Put R55_Right R55_Same law55_awake law55_back law55_of saved_Get saved_Of saved_Put saved_Right saved_Same ra0 x s = some res) :
    Leads Try.prog 9 2 ⟨⟨9, 111, [(0, .agg ⟨[.int .u64 ra0.Key.A, .int .u64 ra0.Key.B, .int .i64 ra0.Last, .slice (some ⟨0, 0, none⟩) ra0.L.length 6]⟩), (1, .agg ⟨[.int .u64 x.Key.A, .int .u64 x.Key.B, .int .i64 x.Last, .slice (some ⟨1, 0, none⟩) x.L.length 6]⟩), (2, .string ⟨⟨s⟩⟩)], [.code k9_17], [], false, none⟩, [], [(0, .row false (vT capi_Backend ra0.L)), (1, .row false (vT capi_Backend x.L))], 2⟩ (fun v H _ => Res 2 (rx9 res) v H) := by
  unfold law55_SavedTellsF at h
  refine ev_ok tab_ok hS true 3000 ?_
  conv => whnf
  refine br.h h ?_ ?_ ?_
  · rfl
  · clear h; intro hb h; conv => whnf
    replace h := obind.elim h; obtain ⟨a, hy, h⟩ := h
    refine sumK.q rfl rfl (r47_eq hy) rfl rfl rfl ?_
    conv => whnf
    all_goals (cases h)
    all_goals exact Res.of [] rfl nw_0 (by decide) js_0 (wr_n (wr_n wr_0))
  clear h; intro hb h; conv => whnf
  refine br.h h ?_ ?_ ?_
  · rfl
  · clear h; intro hb h; conv => whnf
    replace h := obind.elim h; obtain ⟨a1, hy, h⟩ := h
    refine sumK.q rfl rfl (r47_eq hy) rfl rfl rfl ?_
    conv => whnf
    all_goals (cases h)
    all_goals exact Res.of [] rfl nw_0 (by decide) js_0 (wr_n (wr_n wr_0))
  clear h; intro hb h; conv => whnf
  refine br.h h ?_ ?_ ?_
  · rfl
  · clear h; intro hb h; conv => whnf
    replace h := obind.elim h; obtain ⟨a2, hy, h⟩ := h
    refine sumK.q rfl rfl (r47_eq hy) rfl rfl rfl ?_
    conv => whnf
    all_goals (cases h)
    all_goals exact Res.of [] rfl nw_0 (by decide) js_0 (wr_n (wr_n wr_0))
  clear h; intro hb h; conv => whnf
  replace h := obind.elim h; obtain ⟨xo, hy, h⟩ := h
  refine sumK.introF [] (sumRun_of (aqs := [.agg ⟨[.int .u64 ra0.Key.A, .int .u64 ra0.Key.B, .int .i64 ra0.Last, .slice (some ⟨0, 0, none⟩) ra0.L.length 6]⟩]) (ws := [.blk 0 false]) (n := 0) (m := 0) (t' := 4) (ra_cons (ra_tr rfl rfl (vp_at rfl rfl (rn_T capi_Backend_flat) rfl vp_nil) rfl) rfl ra_nil) rfl (by rfl) (r54_eq hy) rfl rfl rfl rfl (wb_skip rfl wb_nil) an_nil rfl) ?_
  conv => whnf
  replace h := oreq.elim h; obtain ⟨hb, h⟩ := h
  rw [of_decide_eq_true hb]
  conv => whnf
  replace h := obind.elim h; obtain ⟨p, hy, h⟩ := h
  refine sumK.introF [] (sumRun_of (aqs := [.agg ⟨[.int .u64 (saved_Record.mk xo.Key xo.Last ra0.L).Key.A, .int .u64 (saved_Record.mk xo.Key xo.Last ra0.L).Key.B, .int .i64 (saved_Record.mk xo.Key xo.Last ra0.L).Last, .slice (some ⟨0, 0, none⟩) (saved_Record.mk xo.Key xo.Last ra0.L).L.length 6]⟩]) (ws := [.blk 0 false]) (n := 0) (m := 0) (t' := 4) (ra_cons (ra_tr rfl rfl (vp_at rfl rfl (rn_T capi_Backend_flat) rfl vp_nil) rfl) rfl ra_nil) rfl (by rfl) (r53_eq hy) rfl rfl rfl rfl (wb_skip rfl wb_nil) an_nil rfl) ?_
  conv => whnf
  replace h := obind.elim h; obtain ⟨p1, hy, h⟩ := h
  refine sumK.introF [] (sumRun_of (aqs := [.agg ⟨[.int .u64 ra0.Key.A, .int .u64 ra0.Key.B, .int .i64 ra0.Last, .slice (some ⟨0, 0, none⟩) ra0.L.length 6]⟩]) (ws := [.blk 0 false]) (n := 0) (m := 0) (t' := 4) (ra_cons (ra_tr rfl rfl (vp_at rfl rfl (rn_T capi_Backend_flat) rfl vp_nil) rfl) rfl ra_nil) rfl (by rfl) (r55_eq hy) rfl rfl rfl rfl (wb_skip rfl wb_nil) an_nil rfl) ?_
  conv => whnf
  replace h := obind.elim h; obtain ⟨xg, hy, h⟩ := h
  refine sumK.introF [] (sumRun_of (aqs := [.string ⟨⟨s⟩⟩]) (ws := []) (n := 1) (m := 0) (t' := 5) (ra_cons rfl rfl ra_nil) rfl (by rfl) (r48_eq hy) rfl rfl rfl rfl wb_nil (an_cons (rn_T capi_Backend_flat) an_nil) rfl) ?_
  conv => whnf
  replace h := obind.elim h; obtain ⟨xg1, hy, h⟩ := h
  refine sumK.introF [] (sumRun_of (aqs := [.string ⟨⟨s⟩⟩]) (ws := []) (n := 1) (m := 0) (t' := 7) (ra_cons rfl rfl ra_nil) rfl (by rfl) (r50_eq hy) rfl rfl rfl rfl wb_nil (an_cons (rn_T capi_Backend_flat) an_nil) rfl) ?_
  conv => whnf
  replace h := obind.elim h; obtain ⟨xo1, hy, h⟩ := h
  refine sumK.introF [] (sumRun_of (aqs := [.agg ⟨[.int .u64 ra0.Key.A, .int .u64 ra0.Key.B, .int .i64 ra0.Last, .slice (some ⟨0, 0, none⟩) ra0.L.length 6]⟩]) (ws := [.blk 0 false]) (n := 0) (m := 0) (t' := 9) (ra_cons (ra_tr rfl rfl (vp_at rfl rfl (rn_T capi_Backend_flat) rfl vp_nil) rfl) rfl ra_nil) rfl (by rfl) (r54_eq hy) rfl rfl rfl rfl (wb_skip rfl wb_nil) an_nil rfl) ?_
  conv => whnf
  replace h := oreq.elim h; obtain ⟨hb, h⟩ := h
  rw [of_decide_eq_true hb]
  conv => whnf
  replace h := obind.elim h; obtain ⟨xr, hy, h⟩ := h
  refine sumK.introF [] (sumRun_of (aqs := [.agg ⟨[.int .u64 (saved_Record.mk xo1.Key xo1.Last ra0.L).Key.A, .int .u64 (saved_Record.mk xo1.Key xo1.Last ra0.L).Key.B, .int .i64 (saved_Record.mk xo1.Key xo1.Last ra0.L).Last, .slice (some ⟨0, 0, none⟩) (saved_Record.mk xo1.Key xo1.Last ra0.L).L.length 6]⟩]) (ws := [.blk 0 false]) (n := 0) (m := 0) (t' := 10) (ra_cons (ra_tr rfl rfl (vp_at rfl rfl (rn_T capi_Backend_flat) rfl vp_nil) rfl) rfl ra_nil) rfl (by rfl) (r56_eq hy) rfl rfl rfl rfl (wb_skip rfl wb_nil) an_nil rfl) ?_
  conv => whnf
  replace h := obind.elim h; obtain ⟨xr1, hy, h⟩ := h
  refine sumK.introF [] (sumRun_of (aqs := [.agg ⟨[.int .u64 ra0.Key.A, .int .u64 ra0.Key.B, .int .i64 ra0.Last, .slice (some ⟨0, 0, none⟩) ra0.L.length 6]⟩]) (ws := [.blk 0 false]) (n := 0) (m := 0) (t' := 12) (ra_cons (ra_tr rfl rfl (vp_at rfl rfl (rn_T capi_Backend_flat) rfl vp_nil) rfl) rfl ra_nil) rfl (by rfl) (r57_eq hy) rfl rfl rfl rfl (wb_skip rfl wb_nil) an_nil rfl) ?_
  conv => whnf
  refine br.h2 h ?_ ?_ ?_
  · rfl
  · clear h; intro hb h; conv => whnf
    all_goals (cases h)
    all_goals exact Res.of [] rfl nw_0 (by decide) js_0 (wr_n (wr_n wr_0))
  clear h; intro hb h; conv => whnf
  refine br.h2 h ?_ ?_ ?_
  · rfl
  · clear h; intro hb h; conv => whnf
    all_goals (cases h)
    all_goals exact Res.of [] rfl nw_0 (by decide) js_0 (wr_n (wr_n wr_0))
  clear h; intro hb h; conv => whnf
  refine br.h2 h ?_ ?_ ?_
  · rfl
  · clear h; intro hb h; conv => whnf
    all_goals (cases h)
    all_goals exact Res.of [] rfl nw_0 (by decide) js_0 (wr_n (wr_n wr_0))
  clear h; intro hb h; conv => whnf
  replace h := obind.elim h; obtain ⟨b, hy, h⟩ := h
  refine sumK.introF [] (sumRun_of (aqs := [.agg ⟨[.int .u64 xg.1.Key.A, .int .u64 xg.1.Key.B, .int .i64 xg.1.Last, .slice (some ⟨0, 0, none⟩) xg.1.L.length 6]⟩]) (ws := [.blk 4 false]) (n := 0) (m := 0) (t' := 26) (ra_cons (ra_tr rfl rfl (vp_at rfl rfl (rn_T capi_Backend_flat) rfl vp_nil) rfl) rfl ra_nil) rfl (by rfl) (r52_eq hy) rfl rfl rfl rfl (wb_skip rfl wb_nil) an_nil rfl) ?_
  conv => whnf
  replace h := oreq.elim h; obtain ⟨hb, h⟩ := h
  rw [of_decide_eq_true hb]
  conv => whnf
  replace h := obind.elim h; obtain ⟨s1, hy, h⟩ := h
  refine sumK.introF [] (sumRun_of (aqs := [.agg ⟨[.int .u64 (saved_Record.mk b.Key b.Last xg.1.L).Key.A, .int .u64 (saved_Record.mk b.Key b.Last xg.1.L).Key.B, .int .i64 (saved_Record.mk b.Key b.Last xg.1.L).Last, .slice (some ⟨0, 0, none⟩) (saved_Record.mk b.Key b.Last xg.1.L).L.length 6]⟩, .agg ⟨[.int .u64 xg1.1.Key.A, .int .u64 xg1.1.Key.B, .int .i64 xg1.1.Last, .slice (some ⟨1, 0, none⟩) xg1.1.L.length 6]⟩]) (ws := [.blk 4 false, .blk 6 false]) (n := 0) (m := 0) (t' := 28) (ra_cons (ra_tr rfl rfl (vp_at rfl rfl (rn_T capi_Backend_flat) rfl vp_nil) rfl) rfl (ra_cons (ra_tr rfl rfl (vp_at rfl rfl (rn_T capi_Backend_flat) rfl vp_nil) rfl) rfl ra_nil)) rfl (by rfl) (r51_eq hy) rfl rfl rfl rfl (wb_skip rfl (wb_skip rfl wb_nil)) an_nil rfl) ?_
  conv => whnf
  refine br.h2 h ?_ ?_ ?_
  · rfl
  · clear h; intro hb h; conv => whnf
    all_goals (cases h)
    all_goals exact Res.of [] rfl nw_0 (by decide) js_0 (wr_n (wr_n wr_0))
  clear h; intro hb h; conv => whnf
  refine br.h2 h ?_ ?_ ?_
  · rfl
  · clear h; intro hb h; conv => whnf
    all_goals (cases h)
    all_goals exact Res.of [] rfl nw_0 (by decide) js_0 (wr_n (wr_n wr_0))
  clear h; intro hb h; conv => whnf
  replace h := obind.elim h; obtain ⟨xo2, hy, h⟩ := h
  refine sumK.introF [] (sumRun_of (aqs := [.agg ⟨[.int .u64 ra0.Key.A, .int .u64 ra0.Key.B]⟩, .int .i64 ra0.Last, .slice (some ⟨0, 0, none⟩) (ra0.L : List api_Backend).length 6]) (ws := [.win 0 0 (ra0.L.length * 6) false]) (n := 1) (m := 0) (t' := 43) (ra_cons rfl rfl (ra_cons rfl rfl (ra_cons (by first | rfl | exact ra_allT capi_Backend_len capi_Backend_flat rfl rfl (by first | rfl | omega) (by first | rfl | (simp; done)) | exact ra_slT capi_Backend_len capi_Backend_flat rfl rfl (by first | rfl | omega) (by first | rfl | omega) (by first | omega | (simp at *; omega))) rfl ra_nil))) rfl (by rfl) (r58_eq hy) rfl rfl rfl rfl (wb_skip rfl wb_nil) (an_cons (rn_T capi_Backend_flat) an_nil) rfl) ?_
  conv => whnf
  replace h := obind.elim h; obtain ⟨b1, hy, h⟩ := h
  refine sumK.introF [] (sumRun_of (aqs := [.agg ⟨[.int .u64 xo2.Key.A, .int .u64 xo2.Key.B, .int .i64 xo2.Last, .slice (some ⟨0, 0, none⟩) xo2.L.length 6]⟩]) (ws := [.blk 42 false]) (n := 0) (m := 0) (t' := 44) (ra_cons (ra_tr rfl rfl (vp_at rfl rfl (rn_T capi_Backend_flat) rfl vp_nil) rfl) rfl ra_nil) rfl (by rfl) (r52_eq hy) rfl rfl rfl rfl (wb_skip rfl wb_nil) an_nil rfl) ?_
  conv => whnf
  replace h := oreq.elim h; obtain ⟨hb, h⟩ := h
  rw [of_decide_eq_true hb]
  conv => whnf
  replace h := obind.elim h; obtain ⟨xo3, hy, h⟩ := h
  refine sumK.introF [] (sumRun_of (aqs := [.agg ⟨[.int .u64 ra0.Key.A, .int .u64 ra0.Key.B]⟩, .int .i64 ra0.Last, .slice (some ⟨0, 0, none⟩) (ra0.L : List api_Backend).length 6]) (ws := [.win 0 0 (ra0.L.length * 6) false]) (n := 1) (m := 0) (t' := 52) (ra_cons rfl rfl (ra_cons rfl rfl (ra_cons (by first | rfl | exact ra_allT capi_Backend_len capi_Backend_flat rfl rfl (by first | rfl | omega) (by first | rfl | (simp; done)) | exact ra_slT capi_Backend_len capi_Backend_flat rfl rfl (by first | rfl | omega) (by first | rfl | omega) (by first | omega | (simp at *; omega))) rfl ra_nil))) rfl (by rfl) (r59_eq hy) rfl rfl rfl rfl (wb_skip rfl wb_nil) (an_cons (rn_T capi_Backend_flat) an_nil) rfl) ?_
  conv => whnf
  replace h := obind.elim h; obtain ⟨s2, hy, h⟩ := h
  refine sumK.introF [] (sumRun_of (aqs := [.agg ⟨[.int .u64 (saved_Record.mk b1.Key b1.Last xo2.L).Key.A, .int .u64 (saved_Record.mk b1.Key b1.Last xo2.L).Key.B, .int .i64 (saved_Record.mk b1.Key b1.Last xo2.L).Last, .slice (some ⟨0, 0, none⟩) (saved_Record.mk b1.Key b1.Last xo2.L).L.length 6]⟩, .agg ⟨[.int .u64 xo3.Key.A, .int .u64 xo3.Key.B, .int .i64 xo3.Last, .slice (some ⟨1, 0, none⟩) xo3.L.length 6]⟩]) (ws := [.blk 42 false, .blk 51 false]) (n := 0) (m := 0) (t' := 53) (ra_cons (ra_tr rfl rfl (vp_at rfl rfl (rn_T capi_Backend_flat) rfl vp_nil) rfl) rfl (ra_cons (ra_tr rfl rfl (vp_at rfl rfl (rn_T capi_Backend_flat) rfl vp_nil) rfl) rfl ra_nil)) rfl (by rfl) (r51_eq hy) rfl rfl rfl rfl (wb_skip rfl (wb_skip rfl wb_nil)) an_nil rfl) ?_
  conv => whnf
  refine br.h2 h ?_ ?_ ?_
  · rfl
  · clear h; intro hb h; conv => whnf
    all_goals (cases h)
    all_goals exact Res.of [] rfl nw_0 (by decide) js_0 (wr_n (wr_n wr_0))
  clear h; intro hb h; conv => whnf
  replace h := obind.elim h; obtain ⟨xo4, hy, h⟩ := h
  refine sumK.introF [] (sumRun_of (aqs := [.agg ⟨[.int .u64 ra0.Key.A, .int .u64 ra0.Key.B, .int .i64 ra0.Last, .slice (some ⟨0, 0, none⟩) ra0.L.length 6]⟩]) (ws := [.blk 0 false]) (n := 0) (m := 0) (t' := 57) (ra_cons (ra_tr rfl rfl (vp_at rfl rfl (rn_T capi_Backend_flat) rfl vp_nil) rfl) rfl ra_nil) rfl (by rfl) (r54_eq hy) rfl rfl rfl rfl (wb_skip rfl wb_nil) an_nil rfl) ?_
  conv => whnf
  replace h := oreq.elim h; obtain ⟨hb, h⟩ := h
  rw [of_decide_eq_true hb]
  conv => whnf
  replace h := obind.elim h; obtain ⟨xo5, hy, h⟩ := h
  refine sumK.introF [] (sumRun_of (aqs := [.agg ⟨[.int .u64 x.Key.A, .int .u64 x.Key.B, .int .i64 x.Last, .slice (some ⟨0, 0, none⟩) x.L.length 6]⟩]) (ws := [.blk 1 false]) (n := 0) (m := 0) (t' := 59) (ra_cons (ra_tr rfl rfl (vp_at rfl rfl (rn_T capi_Backend_flat) rfl vp_nil) rfl) rfl ra_nil) rfl (by rfl) (r54_eq hy) rfl rfl rfl rfl (wb_skip rfl wb_nil) an_nil rfl) ?_
  conv => whnf
  replace h := oreq.elim h; obtain ⟨hb, h⟩ := h
  rw [of_decide_eq_true hb]
  conv => whnf
  replace h := obind.elim h; obtain ⟨s3, hy, h⟩ := h
  refine sumK.introF [] (sumRun_of (aqs := [.agg ⟨[.int .u64 (saved_Record.mk xo4.Key xo4.Last ra0.L).Key.A, .int .u64 (saved_Record.mk xo4.Key xo4.Last ra0.L).Key.B, .int .i64 (saved_Record.mk xo4.Key xo4.Last ra0.L).Last, .slice (some ⟨0, 0, none⟩) (saved_Record.mk xo4.Key xo4.Last ra0.L).L.length 6]⟩, .agg ⟨[.int .u64 (saved_Record.mk xo5.Key xo5.Last x.L).Key.A, .int .u64 (saved_Record.mk xo5.Key xo5.Last x.L).Key.B, .int .i64 (saved_Record.mk xo5.Key xo5.Last x.L).Last, .slice (some ⟨1, 0, none⟩) (saved_Record.mk xo5.Key xo5.Last x.L).L.length 6]⟩]) (ws := [.blk 0 false, .blk 1 false]) (n := 0) (m := 0) (t' := 60) (ra_cons (ra_tr rfl rfl (vp_at rfl rfl (rn_T capi_Backend_flat) rfl vp_nil) rfl) rfl (ra_cons (ra_tr rfl rfl (vp_at rfl rfl (rn_T capi_Backend_flat) rfl vp_nil) rfl) rfl ra_nil)) rfl (by rfl) (r60_eq hy) rfl rfl rfl rfl (wb_skip rfl (wb_skip rfl wb_nil)) an_nil rfl) ?_
  conv => whnf
  replace h := obind.elim h; obtain ⟨s4, hy, h⟩ := h
  refine sumK.introF [] (sumRun_of (aqs := [.agg ⟨[.int .u64 ra0.Key.A, .int .u64 ra0.Key.B, .int .i64 ra0.Last, .slice (some ⟨0, 0, none⟩) ra0.L.length 6]⟩, .agg ⟨[.int .u64 x.Key.A, .int .u64 x.Key.B, .int .i64 x.Last, .slice (some ⟨1, 0, none⟩) x.L.length 6]⟩]) (ws := [.blk 0 false, .blk 1 false]) (n := 0) (m := 0) (t' := 63) (ra_cons (ra_tr rfl rfl (vp_at rfl rfl (rn_T capi_Backend_flat) rfl vp_nil) rfl) rfl (ra_cons (ra_tr rfl rfl (vp_at rfl rfl (rn_T capi_Backend_flat) rfl vp_nil) rfl) rfl ra_nil)) rfl (by rfl) (r51_eq hy) rfl rfl rfl rfl (wb_skip rfl (wb_skip rfl wb_nil)) an_nil rfl) ?_
  conv => whnf
  refine br.h2 h ?_ ?_ ?_
  · rfl
  · clear h; intro hb h; conv => whnf
    all_goals (cases h)
    all_goals exact Res.of [] rfl nw_0 (by decide) js_0 (wr_n (wr_n wr_0))
  clear h; intro hb h; conv => whnf
  replace h := obind.elim h; obtain ⟨a3, hy, h⟩ := h
  refine sumK.q rfl rfl (r47_eq hy) rfl rfl rfl ?_
  conv => whnf
  all_goals (cases h)
  all_goals exact Res.of [] rfl nw_0 (by decide) js_0 (wr_n (wr_n wr_0))
def law55_SavedTells : saved_Record → saved_Record → (List UInt8) → Option Bool := law55_SavedTellsF R55_Get R55_Of R55_Put R55_Right R55_Same law55_awake law55_back law55_of saved_Get saved_Of saved_Put saved_Right saved_Same
end Go.Vm.Code
namespace Go.Vm.Code
open Go Go.Vm
def bkEq (a b : api_Backend) : Bool := (a.ID == b.ID) && ((a.Weight == b.Weight) && ((a.State == b.State) && ((a.Addr.V6 == b.Addr.V6) && ((a.Addr.Hi == b.Addr.Hi) && ((a.Addr.Lo == b.Addr.Lo) && true)))))
theorem bkEq_eq (a b : api_Backend) : bkEq a b = decide (a = b) := by
  rw [Bool.eq_iff_iff, decide_eq_true_iff]
  unfold bkEq
  constructor
  · intro h
    simp only [Bool.and_true, Bool.and_eq_true, beq_iff_eq] at h
    obtain ⟨h1, h2, h3, h4, h5, h6⟩ := h
    exact api_Backend.ext h1 h2 h3 (api_Addr.ext h4 h5 h6)
  · rintro rfl; simp
theorem eqL {a b : List api_Backend} (hl : a.length < 2 ^ 60) (step : Int → Option (Sum Int Bool))
    (h1 : ∀ i (hi : i < a.length) (hb : i < b.length), step (i : Int) = if bkEq a[i] b[i] = true then some (.inl ((i + 1 : Nat) : Int)) else some (.inr false)) (h2 : step (a.length : Int) = some (.inr true)) (hab : a.length = b.length) : iter step FUEL 0 = some (decide (a = b)) := by
  refine iter_eq (fun _ => decide (a = b)) (fun (s : Int) => 0 ≤ s ∧ s ≤ a.length ∧ ∀ j : Nat, (j : Int) < s → a[j]? = b[j]?) (fun s => ((a.length : Int) - s).toNat) ?_ FUEL 0 ⟨by omega, by omega, fun j hj => by omega⟩ (by rw [FUEL_eq]; omega)
  rintro s ⟨g0, g1, g2⟩
  obtain ⟨i, rfl⟩ := Int.eq_ofNat_of_zero_le g0
  rcases Nat.lt_or_ge i a.length with hi | hi
  · rw [h1 i hi (by omega), bkEq_eq]
    by_cases he : a[i] = b[i]
    · right
      rw [decide_eq_true he, if_pos rfl]
      refine ⟨_, rfl, ⟨by omega, by omega, fun j hj => ?_⟩, by omega, by trivial⟩
      rcases Nat.lt_or_ge j i with h | h
      · exact g2 j (by omega)
      · have : j = i := by omega
        subst this
        rw [List.getElem?_eq_getElem hi, List.getElem?_eq_getElem (show j < b.length by omega), he]
    · left
      rw [decide_eq_false he, if_neg (by decide), decide_eq_false]
      rintro rfl
      exact he rfl
  · left
    have : i = a.length := by omega
    subst this
    rw [h2, decide_eq_true]
    apply List.ext_getElem?
    intro j
    rcases Nat.lt_or_ge j a.length with h | h
    · exact g2 j (by omega)
    · rw [List.getElem?_eq_none (by omega), List.getElem?_eq_none (by omega)]
theorem gsame_eq {a b : List api_Backend} (hl : a.length < 2 ^ 60) : R23_Same a b = some (decide (a = b)) := by
  unfold R23_Same R23_SameF
  by_cases hab : a.length = b.length
  · rw [show ((a.length : Int) != (b.length : Int)) = false from by rw [bne_eq_false_iff_eq]; omega, cond_false]
    refine eqL hl _ (fun i hi hb => ?_) ?_ hab
    · unfold R23_Same_s1
      rw [cond_p (by omega), oreq_p ⟨by omega, by omega⟩, Int.toNat_natCast, List.getElem?_eq_getElem hi, Option.bind_some, oreq_p ⟨by omega, by omega⟩, List.getElem?_eq_getElem hb, Option.bind_some, wI64 (by omega) (by omega), show (i : Int) + 1 = ((i + 1 : Nat) : Int) by omega]
      show cond (!bkEq a[i] b[i]) _ _ = _
      cases bkEq a[i] b[i] <;> rfl
    · unfold R23_Same_s1
      rw [cond_n (by omega)]
  · rw [show ((a.length : Int) != (b.length : Int)) = true from by rw [bne_iff_ne]; omega, cond_true, decide_eq_false]
    rintro rfl; exact hab rfl
theorem slEq_eq {a b : List api_Backend} (hl : a.length < 2 ^ 60) : slices_Equal_api_Backend_api_Backend a b = some (decide (a = b)) := by
  unfold slices_Equal_api_Backend_api_Backend slices_Equal_api_Backend_api_BackendF
  by_cases hab : a.length = b.length
  · rw [show ((a.length : Int) != (b.length : Int)) = false from by rw [bne_eq_false_iff_eq]; omega, cond_false]
    refine eqL hl _ (fun i hi hb => ?_) ?_ hab
    · unfold slices_Equal_api_Backend_api_Backend_s1
      rw [cond_p (by omega), oreq_p ⟨by omega, by omega⟩, Int.toNat_natCast, List.getElem?_eq_getElem hi, Option.bind_some, oreq_p ⟨by omega, by omega⟩, List.getElem?_eq_getElem hb, Option.bind_some, wI64 (by omega) (by omega), show (i : Int) + 1 = ((i + 1 : Nat) : Int) by omega]
      show cond (!bkEq a[i] b[i]) _ _ = _
      cases bkEq a[i] b[i] <;> rfl
    · unfold slices_Equal_api_Backend_api_Backend_s1
      rw [cond_n (by omega)]
  · rw [show ((a.length : Int) != (b.length : Int)) = true from by rw [bne_iff_ne]; omega, cond_true, decide_eq_false]
    rintro rfl; exact hab rfl
theorem keyEq (a b : api_Key) : ((a.A == b.A) && ((a.B == b.B) && true)) = decide (a = b) := by
  rw [Bool.eq_iff_iff, decide_eq_true_iff]
  constructor
  · intro h
    simp only [Bool.and_true, Bool.and_eq_true, beq_iff_eq] at h
    exact api_Key.ext h.1 h.2
  · rintro rfl; simp
theorem psame_eq {a b : saved_Record} (hl : a.L.length < 2 ^ 60) : saved_Same a b = some (decide (a = b)) := by
  unfold saved_Same saved_SameF
  simp only [keyEq]
  by_cases h1 : a.Key = b.Key
  · rw [decide_eq_true h1, cond_true]
    by_cases h2 : a.Last = b.Last
    · rw [show (a.Last == b.Last) = true from by simpa using h2, cond_true, slEq_eq hl]
      simp only [Option.bind_some]
      congr 1
      rw [decide_eq_decide]
      exact ⟨fun h => saved_Record.ext h1 h2 h, fun h => by rw [h]⟩
    · rw [show (a.Last == b.Last) = false from by simpa using h2, cond_false, decide_eq_false]
      rintro rfl; exact h2 rfl
  · rw [decide_eq_false h1, cond_false, decide_eq_false]
    rintro rfl; exact h1 rfl
theorem rsame_eq {a b : saved_Record} (hl : a.L.length < 2 ^ 60) : R55_Same a b = some (decide (a = b)) := by
  unfold R55_Same R55_SameF
  simp only [keyEq]
  by_cases h1 : a.Key = b.Key
  · rw [decide_eq_true h1, cond_true]
    by_cases h2 : a.Last = b.Last
    · rw [show (a.Last == b.Last) = true from by simpa using h2, cond_true, gsame_eq hl]
      simp only [Option.bind_some]
      congr 1
      rw [decide_eq_decide]
      exact ⟨fun h => saved_Record.ext h1 h2 h, fun h => by rw [h]⟩
    · rw [show (a.Last == b.Last) = false from by simpa using h2, cond_false, decide_eq_false]
      rintro rfl; exact h2 rfl
  · rw [decide_eq_false h1, cond_false, decide_eq_false]
    rintro rfl; exact h1 rfl
theorem awake55 : law55_awake = some true := by decide +kernel
theorem lof_eq (r : saved_Record) : law55_of r = some r := rfl
theorem lback_eq (r : saved_Record) : law55_back r = some r := rfl
theorem getR_len (s : List UInt8) : (getR s).1.L.length ≤ 255 := by
  unfold getR
  split
  · simp [zeroR]
  split
  · simp [zeroR]
  split
  · simp [zeroR]
  · have hv : valL ((s.drop 22).take 1) < 256 := val_take_lt _ (by decide)
    unfold finG
    split
    · simp [zeroR]
    · rename_i l g' r e
      have := (recs_len e).1
      split
      · simp [zeroR]
      · split
        · simp; omega
        · simp [zeroR]
theorem ofL_len (l : List api_Backend) : (ofL l).length ≤ l.length := by
  unfold ofL; rw [List.length_map]; exact List.length_filter_le _ _
theorem savedTells (r x : saved_Record) (s : List UInt8) (hr : recOK r) : law55_SavedTells r x s = some true := by
  unfold law55_SavedTells law55_SavedTellsF
  rw [awake55, Option.bind_some]
  by_cases h1 : (r.L.length : Int) > 70
  · rw [cond_p h1]
  rw [cond_n h1]
  by_cases h2 : (x.L.length : Int) > 70
  · rw [cond_p h2]
  rw [cond_n h2]
  by_cases h3 : (s.length : Int) > 800
  · rw [cond_p h3]
  rw [cond_n h3]
  have := getR_len s
  have := ofL_len r.L
  rw [lof_eq, Option.bind_some, oreq_p rfl]
  rw [show saved_Put (saved_Record.mk r.Key r.Last r.L) = _ from pput_eq hr, Option.bind_some, rput55_eq hr, Option.bind_some, pgetR_eq (by omega), Option.bind_some, rgetR_eq (by omega), Option.bind_some]
  rw [Option.bind_some, oreq_p rfl]
  rw [show saved_Right (saved_Record.mk r.Key r.Last r.L) = _ from pright_eq r, Option.bind_some, rright55_eq, Option.bind_some]
  simp only [BEq.rfl, cond_true]
  rw [lback_eq, Option.bind_some, oreq_p rfl, rsame_eq (by simp only []; omega), Option.bind_some]
  simp only [decide_true, cond_true]
  rw [pof_eq (by omega), Option.bind_some, lback_eq, Option.bind_some, oreq_p rfl, rof_eq (by omega), Option.bind_some, rsame_eq (by simp only []; omega), Option.bind_some]
  simp only [decide_true, cond_true]
  rw [Option.bind_some, oreq_p rfl, lof_eq, Option.bind_some, oreq_p rfl]
  rw [psame_eq (by simp only []; omega), Option.bind_some, rsame_eq (by omega), Option.bind_some]
  show cond (decide (r = x) == decide (r = x)) _ _ = _
  simp
end Go.Vm.Code
