import Derived.Test.YtadhjooghfdloaaNStatelessForgede
namespace Go.Vm.Code
open Go Go.Vm Go.Proofs
set_option maxRecDepth 100000
set_option maxHeartbeats 4000000
set_option linter.unusedVariables false
def law32_StatelessForgedF (law32_awake : Option Bool) (law32_grown : (List R23_Step) → Option (registry_Registry × R23_Registry)) (registry_Registry_Get : registry_Registry → Int → Option (api_Backend × Bool)) (registry_Registry_Get_nil : Int → Option (api_Backend × Bool)) (stateless_Find : registry_Registry → api_Key → api_Tuple → Int → Option (api_Backend × Bool)) (stateless_Find_nil : api_Key → api_Tuple → Int → Option (api_Backend × Bool)) (stateless_Make : api_Key → api_Tuple → Int → Option Int) (stateless_Open : api_Key → api_Tuple → Int → Option (Int × Bool)) (k : api_Key) (t : api_Tuple) (m : Int) (n : Int) (l : List R23_Step) : Option Bool :=
  cond (decide ((l.length : Int) > 30))
    (
    (law32_awake).bind fun a =>
    some (a))
    (
    (stateless_Open k (api_Tuple.mk 6 t.Src t.Dst t.SPort t.DPort) (wI .u64 m)).bind fun xo =>
    (stateless_Open k (api_Tuple.mk 6 t.Src t.Dst t.SPort t.DPort) (wI .u64 n)).bind fun xo1 =>
    (stateless_Open k (api_Tuple.mk 6 t.Src t.Dst t.SPort t.DPort) (wI .u64 ((wI .u64 m) + 65536))).bind fun xo2 =>
    cond (xo2.2)
      (
      some (false))
      (
      cond (m != n)
        (
        cond (!xo.2)
          (
          cond (!xo1.2)
            (
            some (false))
            (
            cond (!(xo.2 == (decide (xo.1 > 0))))
              (
              some (false))
              (
              cond (decide (xo.1 < 0))
                (
                some (false))
                (
                cond (decide (xo.1 > 65535))
                  (
                  some (false))
                  (
                  (law32_grown l).bind fun xg =>
                  (stateless_Find xg.1 k (api_Tuple.mk 6 t.Src t.Dst t.SPort t.DPort) (wI .u64 m)).bind fun f =>
                  (registry_Registry_Get xg.1 xo.1).bind fun xg1 =>
                  cond (f.2 == false)
                    (
                    cond (!f.2)
                      (
                      let t1 := (f.1.ID == 0) && ((f.1.Weight == 0) && ((f.1.State == 0) && ((f.1.Addr.V6 == false) && ((f.1.Addr.Hi == 0) && ((f.1.Addr.Lo == 0) && true)))))
                      cond (t1)
                        (
                        (law32_awake).bind fun a1 =>
                        some (a1))
                        (
                        some (false)))
                      (
                      let t2 := (f.1.ID == xg1.1.ID) && ((f.1.Weight == xg1.1.Weight) && ((f.1.State == xg1.1.State) && ((f.1.Addr.V6 == xg1.1.Addr.V6) && ((f.1.Addr.Hi == xg1.1.Addr.Hi) && ((f.1.Addr.Lo == xg1.1.Addr.Lo) && true)))))
                      cond (t2)
                        (
                        (law32_awake).bind fun a2 =>
                        some (a2))
                        (
                        some (false))))
                    (
                    some (false)))))))
          (
          cond (xo1.2)
            (
            cond (xo.1 == xo1.1)
              (
              some (false))
              (
              cond (!(xo.2 == (decide (xo.1 > 0))))
                (
                some (false))
                (
                cond (decide (xo.1 < 0))
                  (
                  some (false))
                  (
                  cond (decide (xo.1 > 65535))
                    (
                    some (false))
                    (
                    (stateless_Make k (api_Tuple.mk 6 t.Src t.Dst t.SPort t.DPort) xo.1).bind fun m1 =>
                    cond (m1 != (wI .u64 m))
                      (
                      some (false))
                      (
                      (law32_grown l).bind fun xg2 =>
                      (stateless_Find xg2.1 k (api_Tuple.mk 6 t.Src t.Dst t.SPort t.DPort) (wI .u64 m)).bind fun f1 =>
                      (registry_Registry_Get xg2.1 xo.1).bind fun xg3 =>
                      cond (xg3.2)
                        (
                        cond (f1.2 == (xg3.1.State != 4))
                          (
                          cond (!f1.2)
                            (
                            let t3 := (f1.1.ID == 0) && ((f1.1.Weight == 0) && ((f1.1.State == 0) && ((f1.1.Addr.V6 == false) && ((f1.1.Addr.Hi == 0) && ((f1.1.Addr.Lo == 0) && true)))))
                            cond (t3)
                              (
                              (law32_awake).bind fun a3 =>
                              some (a3))
                              (
                              some (false)))
                            (
                            let t4 := (f1.1.ID == xg3.1.ID) && ((f1.1.Weight == xg3.1.Weight) && ((f1.1.State == xg3.1.State) && ((f1.1.Addr.V6 == xg3.1.Addr.V6) && ((f1.1.Addr.Hi == xg3.1.Addr.Hi) && ((f1.1.Addr.Lo == xg3.1.Addr.Lo) && true)))))
                            cond (t4)
                              (
                              (law32_awake).bind fun a4 =>
                              some (a4))
                              (
                              some (false))))
                          (
                          some (false)))
                        (
                        cond (f1.2 == false)
                          (
                          cond (!f1.2)
                            (
                            let t5 := (f1.1.ID == 0) && ((f1.1.Weight == 0) && ((f1.1.State == 0) && ((f1.1.Addr.V6 == false) && ((f1.1.Addr.Hi == 0) && ((f1.1.Addr.Lo == 0) && true)))))
                            cond (t5)
                              (
                              (law32_awake).bind fun a5 =>
                              some (a5))
                              (
                              some (false)))
                            (
                            let t6 := (f1.1.ID == xg3.1.ID) && ((f1.1.Weight == xg3.1.Weight) && ((f1.1.State == xg3.1.State) && ((f1.1.Addr.V6 == xg3.1.Addr.V6) && ((f1.1.Addr.Hi == xg3.1.Addr.Hi) && ((f1.1.Addr.Lo == xg3.1.Addr.Lo) && true)))))
                            cond (t6)
                              (
                              (law32_awake).bind fun a6 =>
                              some (a6))
                              (
                              some (false))))
                          (
                          some (false)))))))))
            (
            cond (!(xo.2 == (decide (xo.1 > 0))))
              (
              some (false))
              (
              cond (decide (xo.1 < 0))
                (
                some (false))
                (
                cond (decide (xo.1 > 65535))
                  (
                  some (false))
                  (
                  (stateless_Make k (api_Tuple.mk 6 t.Src t.Dst t.SPort t.DPort) xo.1).bind fun m2 =>
                  cond (m2 != (wI .u64 m))
                    (
                    some (false))
                    (
                    (law32_grown l).bind fun xg4 =>
                    (stateless_Find xg4.1 k (api_Tuple.mk 6 t.Src t.Dst t.SPort t.DPort) (wI .u64 m)).bind fun f2 =>
                    (registry_Registry_Get xg4.1 xo.1).bind fun xg5 =>
                    cond (xg5.2)
                      (
                      cond (f2.2 == (xg5.1.State != 4))
                        (
                        cond (!f2.2)
                          (
                          let t7 := (f2.1.ID == 0) && ((f2.1.Weight == 0) && ((f2.1.State == 0) && ((f2.1.Addr.V6 == false) && ((f2.1.Addr.Hi == 0) && ((f2.1.Addr.Lo == 0) && true)))))
                          cond (t7)
                            (
                            (law32_awake).bind fun a7 =>
                            some (a7))
                            (
                            some (false)))
                          (
                          let t8 := (f2.1.ID == xg5.1.ID) && ((f2.1.Weight == xg5.1.Weight) && ((f2.1.State == xg5.1.State) && ((f2.1.Addr.V6 == xg5.1.Addr.V6) && ((f2.1.Addr.Hi == xg5.1.Addr.Hi) && ((f2.1.Addr.Lo == xg5.1.Addr.Lo) && true)))))
                          cond (t8)
                            (
                            (law32_awake).bind fun a8 =>
                            some (a8))
                            (
                            some (false))))
                        (
                        some (false)))
                      (
                      cond (f2.2 == false)
                        (
                        cond (!f2.2)
                          (
                          let t9 := (f2.1.ID == 0) && ((f2.1.Weight == 0) && ((f2.1.State == 0) && ((f2.1.Addr.V6 == false) && ((f2.1.Addr.Hi == 0) && ((f2.1.Addr.Lo == 0) && true)))))
                          cond (t9)
                            (
                            (law32_awake).bind fun a9 =>
                            some (a9))
                            (
                            some (false)))
                          (
                          let t10 := (f2.1.ID == xg5.1.ID) && ((f2.1.Weight == xg5.1.Weight) && ((f2.1.State == xg5.1.State) && ((f2.1.Addr.V6 == xg5.1.Addr.V6) && ((f2.1.Addr.Hi == xg5.1.Addr.Hi) && ((f2.1.Addr.Lo == xg5.1.Addr.Lo) && true)))))
                          cond (t10)
                            (
                            (law32_awake).bind fun a10 =>
                            some (a10))
                            (
                            some (false))))
                        (
                        some (false))))))))))
        (
        cond (!(xo.2 == (decide (xo.1 > 0))))
          (
          some (false))
          (
          cond (decide (xo.1 < 0))
            (
            some (false))
            (
            cond (decide (xo.1 > 65535))
              (
              some (false))
              (
              cond (xo.2)
                (
                (stateless_Make k (api_Tuple.mk 6 t.Src t.Dst t.SPort t.DPort) xo.1).bind fun m3 =>
                cond (m3 != (wI .u64 m))
                  (
                  some (false))
                  (
                  (law32_grown l).bind fun xg6 =>
                  (stateless_Find xg6.1 k (api_Tuple.mk 6 t.Src t.Dst t.SPort t.DPort) (wI .u64 m)).bind fun f3 =>
                  (registry_Registry_Get xg6.1 xo.1).bind fun xg7 =>
                  cond (xg7.2)
                    (
                    cond (f3.2 == (xg7.1.State != 4))
                      (
                      cond (!f3.2)
                        (
                        let t11 := (f3.1.ID == 0) && ((f3.1.Weight == 0) && ((f3.1.State == 0) && ((f3.1.Addr.V6 == false) && ((f3.1.Addr.Hi == 0) && ((f3.1.Addr.Lo == 0) && true)))))
                        cond (t11)
                          (
                          (law32_awake).bind fun a11 =>
                          some (a11))
                          (
                          some (false)))
                        (
                        let t12 := (f3.1.ID == xg7.1.ID) && ((f3.1.Weight == xg7.1.Weight) && ((f3.1.State == xg7.1.State) && ((f3.1.Addr.V6 == xg7.1.Addr.V6) && ((f3.1.Addr.Hi == xg7.1.Addr.Hi) && ((f3.1.Addr.Lo == xg7.1.Addr.Lo) && true)))))
                        cond (t12)
                          (
                          (law32_awake).bind fun a12 =>
                          some (a12))
                          (
                          some (false))))
                      (
                      some (false)))
                    (
                    cond (f3.2 == false)
                      (
                      cond (!f3.2)
                        (
                        let t13 := (f3.1.ID == 0) && ((f3.1.Weight == 0) && ((f3.1.State == 0) && ((f3.1.Addr.V6 == false) && ((f3.1.Addr.Hi == 0) && ((f3.1.Addr.Lo == 0) && true)))))
                        cond (t13)
                          (
                          (law32_awake).bind fun a13 =>
                          some (a13))
                          (
                          some (false)))
                        (
                        let t14 := (f3.1.ID == xg7.1.ID) && ((f3.1.Weight == xg7.1.Weight) && ((f3.1.State == xg7.1.State) && ((f3.1.Addr.V6 == xg7.1.Addr.V6) && ((f3.1.Addr.Hi == xg7.1.Addr.Hi) && ((f3.1.Addr.Lo == xg7.1.Addr.Lo) && true)))))
                        cond (t14)
                          (
                          (law32_awake).bind fun a14 =>
                          some (a14))
                          (
                          some (false))))
                      (
                      some (false)))))
                (
                (law32_grown l).bind fun xg8 =>
                (stateless_Find xg8.1 k (api_Tuple.mk 6 t.Src t.Dst t.SPort t.DPort) (wI .u64 m)).bind fun f4 =>
                (registry_Registry_Get xg8.1 xo.1).bind fun xg9 =>
                cond (f4.2 == false)
                  (
                  cond (!f4.2)
                    (
                    let t15 := (f4.1.ID == 0) && ((f4.1.Weight == 0) && ((f4.1.State == 0) && ((f4.1.Addr.V6 == false) && ((f4.1.Addr.Hi == 0) && ((f4.1.Addr.Lo == 0) && true)))))
                    cond (t15)
                      (
                      (law32_awake).bind fun a15 =>
                      some (a15))
                      (
                      some (false)))
                    (
                    let t16 := (f4.1.ID == xg9.1.ID) && ((f4.1.Weight == xg9.1.Weight) && ((f4.1.State == xg9.1.State) && ((f4.1.Addr.V6 == xg9.1.Addr.V6) && ((f4.1.Addr.Hi == xg9.1.Addr.Hi) && ((f4.1.Addr.Lo == xg9.1.Addr.Lo) && true)))))
                    cond (t16)
                      (
                      (law32_awake).bind fun a16 =>
                      some (a16))
                      (
                      some (false))))
                  (
                  some (false)))))))))
def rx13 (x : Bool) : SRes := ⟨.bool x, [], [none]⟩
abbrev sums13 (law32_awake : Option Bool) (law32_grown : (List R23_Step) → Option (registry_Registry × R23_Registry)) (registry_Registry_Get : registry_Registry → Int → Option (api_Backend × Bool)) (registry_Registry_Get_nil : Int → Option (api_Backend × Bool)) (stateless_Find : registry_Registry → api_Key → api_Tuple → Int → Option (api_Backend × Bool)) (stateless_Find_nil : api_Key → api_Tuple → Int → Option (api_Backend × Bool)) (stateless_Make : api_Key → api_Tuple → Int → Option Int) (stateless_Open : api_Key → api_Tuple → Int → Option (Int × Bool)) : List (Nat × Summ) := [(61, s61 law32_awake), (66, s66 law32_grown), (18, s18 registry_Registry_Get registry_Registry_Get_nil), (67, s67 stateless_Find stateless_Find_nil), (64, s64 stateless_Make), (65, s65 stateless_Open)]
theorem leads13 (law32_awake : Option Bool) (law32_grown : (List R23_Step) → Option (registry_Registry × R23_Registry)) (registry_Registry_Get : registry_Registry → Int → Option (api_Backend × Bool)) (registry_Registry_Get_nil : Int → Option (api_Backend × Bool)) (stateless_Find : registry_Registry → api_Key → api_Tuple → Int → Option (api_Backend × Bool)) (stateless_Find_nil : api_Key → api_Tuple → Int → Option (api_Backend × Bool)) (stateless_Make : api_Key → api_Tuple → Int → Option Int) (stateless_Open : api_Key → api_Tuple → Int → Option (Int × Bool)) (hS : SumsOK Try.prog (aget (sums13 law32_awake law32_grown registry_Registry_Get registry_Registry_Get_nil stateless_Find stateless_Find_nil stateless_Make stateless_Open))) (k : api_Key) (t : api_Tuple) (m : Int) (n : Int) (l : List R23_Step) (res : Bool) (h : law32_StatelessForgedF law32_awake law32_grown registry_Registry_Get registry_Registry_Get_nil stateless_Find stateless_Find_nil stateless_Make stateless_Open k t m n l = some res) :
    Leads Try.prog 13 1 ⟨⟨13, 153, [(0, .agg ⟨[.int .u64 k.A, .int .u64 k.B]⟩), (1, .agg ⟨[.int .i64 t.Proto, .bool t.Src.V6, .int .u64 t.Src.Hi, .int .u64 t.Src.Lo, .bool t.Dst.V6, .int .u64 t.Dst.Hi, .int .u64 t.Dst.Lo, .int .i64 t.SPort, .int .i64 t.DPort]⟩), (2, .int .u16 m), (3, .int .u16 n), (4, .slice (some ⟨0, 0, none⟩) l.length 7)], [.code k13_35], [], false, none⟩, [], [(0, .row false (vT cR23_Step l))], 1⟩ (fun v H _ => Res 1 (rx13 res) v H) := by
  unfold law32_StatelessForgedF at h
  refine ev_ok tab_ok hS true 3000 ?_
  conv => whnf
  refine br.h h ?_ ?_ ?_
  · rfl
  · clear h; intro hb h; conv => whnf
    replace h := obind.elim h; obtain ⟨a, hy, h⟩ := h
    refine sumK.q rfl rfl (r61_eq hy) rfl rfl rfl ?_
    conv => whnf
    all_goals (cases h)
    all_goals exact Res.of [] rfl nw_0 (by decide) js_0 (wr_n wr_0)
  clear h; intro hb h; conv => whnf
  replace h := obind.elim h; obtain ⟨xo, hy, h⟩ := h
  refine sumK.q rfl rfl (r65_eq hy) rfl rfl rfl ?_
  conv => whnf
  replace h := obind.elim h; obtain ⟨xo1, hy, h⟩ := h
  refine sumK.q rfl rfl (r65_eq hy) rfl rfl rfl ?_
  conv => whnf
  replace h := obind.elim h; obtain ⟨xo2, hy, h⟩ := h
  refine sumK.q rfl rfl (r65_eq hy) rfl rfl rfl ?_
  conv => whnf
  refine br.h h ?_ ?_ ?_
  · rfl
  · clear h; intro hb h; conv => whnf
    all_goals (cases h)
    all_goals exact Res.of [] rfl nw_0 (by decide) js_0 (wr_n wr_0)
  clear h; intro hb h; conv => whnf
  refine br.h2 h ?_ ?_ ?_
  · rfl
  · clear h; intro hb h; conv => whnf
    refine br.h h ?_ ?_ ?_
    · rfl
    · clear h; intro hb h; conv => whnf
      all_goals (cases h)
      all_goals exact Res.of [] rfl nw_0 (by decide) js_0 (wr_n wr_0)
    clear h; intro hb h; conv => whnf
    refine br.h h ?_ ?_ ?_
    · rfl
    · clear h; intro hb h; conv => whnf
      all_goals (cases h)
      all_goals exact Res.of [] rfl nw_0 (by decide) js_0 (wr_n wr_0)
    clear h; intro hb h; conv => whnf
    refine br.h h ?_ ?_ ?_
    · rfl
    · clear h; intro hb h; conv => whnf
      all_goals (cases h)
      all_goals exact Res.of [] rfl nw_0 (by decide) js_0 (wr_n wr_0)
    clear h; intro hb h; conv => whnf
    refine br.h2 h ?_ ?_ ?_
    · rfl
    · clear h; intro hb h; conv => whnf
      replace h := obind.elim h; obtain ⟨xg8, hy, h⟩ := h
      refine sumK.introF [3, 5] (sumRun_of (aqs := [.slice (some ⟨0, 0, none⟩) (l : List R23_Step).length 7]) (ws := [.win 0 0 (l.length * 7) false]) (n := 4) (m := 0) (t' := 7) (ra_cons (by first | rfl | exact ra_allT cR23_Step_len cR23_Step_flat rfl rfl (by first | rfl | omega) (by first | rfl | (simp; done)) | exact ra_slT cR23_Step_len cR23_Step_flat rfl rfl (by first | rfl | omega) (by first | rfl | omega) (by first | omega | (simp at *; omega))) rfl ra_nil) rfl (by rfl) (r66_eq hy) rfl rfl rfl rfl (wb_skip rfl wb_nil) (an_cons (rfl) (an_cons (rn_T cregistry_row_flat) (an_cons (rfl) (an_cons (rn_T cR23_Row_flat) an_nil)))) rfl) ?_
      conv => whnf
      replace h := obind.elim h; obtain ⟨f4, hy, h⟩ := h
      refine sumK.introF [] (sumRun_of (aqs := [.pointer (some ⟨0, 0, none⟩), .agg ⟨[.int .u64 k.A, .int .u64 k.B]⟩, .agg ⟨[.int .i64 6, .bool t.Src.V6, .int .u64 t.Src.Hi, .int .u64 t.Src.Lo, .bool t.Dst.V6, .int .u64 t.Dst.Hi, .int .u64 t.Dst.Lo, .int .i64 t.SPort, .int .i64 t.DPort]⟩, .int .u64 (wI .u64 m)]) (ws := [.blk 3 false, .blk 4 false]) (n := 0) (m := 0) (t' := 7) (ra_cons (ra_tr rfl rfl (vp_at rfl rfl rfl rfl (vp_at rfl rfl (rn_T cregistry_row_flat) rfl vp_nil)) rfl) rfl (ra_cons rfl rfl (ra_cons rfl rfl (ra_cons rfl rfl ra_nil)))) rfl (by rfl) (r67_eq hy) rfl rfl rfl rfl (wb_skip rfl (wb_skip rfl wb_nil)) an_nil rfl) ?_
      conv => whnf
      replace h := obind.elim h; obtain ⟨xg9, hy, h⟩ := h
      refine sumK.introF [] (sumRun_of (aqs := [.pointer (some ⟨0, 0, none⟩), .int .i64 xo.1]) (ws := [.blk 3 false, .blk 4 false]) (n := 0) (m := 0) (t' := 8) (ra_cons (ra_tr rfl rfl (vp_at rfl rfl rfl rfl (vp_at rfl rfl (rn_T cregistry_row_flat) rfl vp_nil)) rfl) rfl (ra_cons rfl rfl ra_nil)) rfl (by rfl) (r18_eq hy) rfl rfl rfl rfl (wb_skip rfl (wb_skip rfl wb_nil)) an_nil rfl) ?_
      conv => whnf
      refine br.neg ?_ ?_; (focus (clear h; first | assumption | (simp_all; done)))
      conv => whnf
      refine br.h2 h ?_ ?_ ?_
      · rfl
      · clear h; intro hb h; conv => whnf
        all_goals (cases h)
        all_goals exact Res.of [] rfl nw_0 (by decide) js_0 (wr_n wr_0)
      clear h; intro hb h; conv => whnf
      refine br.h h ?_ ?_ ?_
      · rfl
      · clear h; intro hb h; conv => whnf
        let t15 : Bool := (f4.1.ID == 0) && ((f4.1.Weight == 0) && ((f4.1.State == 0) && ((f4.1.Addr.V6 == false) && ((f4.1.Addr.Hi == 0) && ((f4.1.Addr.Lo == 0) && true)))))
        refine br.h h ?_ ?_ ?_
        · rfl
        · clear h; intro hb h; conv => whnf
          replace h := obind.elim h; obtain ⟨a15, hy, h⟩ := h
          refine sumK.q rfl rfl (r61_eq hy) rfl rfl rfl ?_
          conv => whnf
          all_goals (cases h)
          all_goals exact Res.of [] rfl nw_0 (by decide) js_0 (wr_n wr_0)
        clear h; intro hb h; conv => whnf
        refine br.neg ?_ ?_; (focus (clear h; first | assumption | (simp_all; done)))
        conv => whnf
        all_goals (cases h)
        all_goals exact Res.of [] rfl nw_0 (by decide) js_0 (wr_n wr_0)
      clear h; intro hb h; conv => whnf
      refine br.pos ?_ ?_; (focus (clear h; first | assumption | (simp_all; done)))
      conv => whnf
      let t16 : Bool := (f4.1.ID == xg9.1.ID) && ((f4.1.Weight == xg9.1.Weight) && ((f4.1.State == xg9.1.State) && ((f4.1.Addr.V6 == xg9.1.Addr.V6) && ((f4.1.Addr.Hi == xg9.1.Addr.Hi) && ((f4.1.Addr.Lo == xg9.1.Addr.Lo) && true)))))
      refine br.h2 h ?_ ?_ ?_
      · rfl
      · clear h; intro hb h; conv => whnf
        all_goals (cases h)
        all_goals exact Res.of [] rfl nw_0 (by decide) js_0 (wr_n wr_0)
      clear h; intro hb h; conv => whnf
      replace h := obind.elim h; obtain ⟨a16, hy, h⟩ := h
      refine sumK.q rfl rfl (r61_eq hy) rfl rfl rfl ?_
      conv => whnf
      all_goals (cases h)
      all_goals exact Res.of [] rfl nw_0 (by decide) js_0 (wr_n wr_0)
    clear h; intro hb h; conv => whnf
    replace h := obind.elim h; obtain ⟨m3, hy, h⟩ := h
    refine sumK.q rfl rfl (r64_eq hy) rfl rfl rfl ?_
    conv => whnf
    refine br.h h ?_ ?_ ?_
    · rfl
    · clear h; intro hb h; conv => whnf
      all_goals (cases h)
      all_goals exact Res.of [] rfl nw_0 (by decide) js_0 (wr_n wr_0)
    clear h; intro hb h; conv => whnf
    replace h := obind.elim h; obtain ⟨xg6, hy, h⟩ := h
    refine sumK.introF [3, 5] (sumRun_of (aqs := [.slice (some ⟨0, 0, none⟩) (l : List R23_Step).length 7]) (ws := [.win 0 0 (l.length * 7) false]) (n := 4) (m := 0) (t' := 7) (ra_cons (by first | rfl | exact ra_allT cR23_Step_len cR23_Step_flat rfl rfl (by first | rfl | omega) (by first | rfl | (simp; done)) | exact ra_slT cR23_Step_len cR23_Step_flat rfl rfl (by first | rfl | omega) (by first | rfl | omega) (by first | omega | (simp at *; omega))) rfl ra_nil) rfl (by rfl) (r66_eq hy) rfl rfl rfl rfl (wb_skip rfl wb_nil) (an_cons (rfl) (an_cons (rn_T cregistry_row_flat) (an_cons (rfl) (an_cons (rn_T cR23_Row_flat) an_nil)))) rfl) ?_
    conv => whnf
    replace h := obind.elim h; obtain ⟨f3, hy, h⟩ := h
    refine sumK.introF [] (sumRun_of (aqs := [.pointer (some ⟨0, 0, none⟩), .agg ⟨[.int .u64 k.A, .int .u64 k.B]⟩, .agg ⟨[.int .i64 6, .bool t.Src.V6, .int .u64 t.Src.Hi, .int .u64 t.Src.Lo, .bool t.Dst.V6, .int .u64 t.Dst.Hi, .int .u64 t.Dst.Lo, .int .i64 t.SPort, .int .i64 t.DPort]⟩, .int .u64 (wI .u64 m)]) (ws := [.blk 3 false, .blk 4 false]) (n := 0) (m := 0) (t' := 7) (ra_cons (ra_tr rfl rfl (vp_at rfl rfl rfl rfl (vp_at rfl rfl (rn_T cregistry_row_flat) rfl vp_nil)) rfl) rfl (ra_cons rfl rfl (ra_cons rfl rfl (ra_cons rfl rfl ra_nil)))) rfl (by rfl) (r67_eq hy) rfl rfl rfl rfl (wb_skip rfl (wb_skip rfl wb_nil)) an_nil rfl) ?_
    conv => whnf
    replace h := obind.elim h; obtain ⟨xg7, hy, h⟩ := h
    refine sumK.introF [] (sumRun_of (aqs := [.pointer (some ⟨0, 0, none⟩), .int .i64 xo.1]) (ws := [.blk 3 false, .blk 4 false]) (n := 0) (m := 0) (t' := 8) (ra_cons (ra_tr rfl rfl (vp_at rfl rfl rfl rfl (vp_at rfl rfl (rn_T cregistry_row_flat) rfl vp_nil)) rfl) rfl (ra_cons rfl rfl ra_nil)) rfl (by rfl) (r18_eq hy) rfl rfl rfl rfl (wb_skip rfl (wb_skip rfl wb_nil)) an_nil rfl) ?_
    conv => whnf
    refine br.pos ?_ ?_; (focus (clear h; first | assumption | (simp_all; done)))
    conv => whnf
    refine br.h h ?_ ?_ ?_
    · rfl
    · clear h; intro hb h; conv => whnf
      refine br.h2 h ?_ ?_ ?_
      · rfl
      · clear h; intro hb h; conv => whnf
        all_goals (cases h)
        all_goals exact Res.of [] rfl nw_0 (by decide) js_0 (wr_n wr_0)
      clear h; intro hb h; conv => whnf
      refine br.h h ?_ ?_ ?_
      · rfl
      · clear h; intro hb h; conv => whnf
        let t11 : Bool := (f3.1.ID == 0) && ((f3.1.Weight == 0) && ((f3.1.State == 0) && ((f3.1.Addr.V6 == false) && ((f3.1.Addr.Hi == 0) && ((f3.1.Addr.Lo == 0) && true)))))
        refine br.h h ?_ ?_ ?_
        · rfl
        · clear h; intro hb h; conv => whnf
          replace h := obind.elim h; obtain ⟨a11, hy, h⟩ := h
          refine sumK.q rfl rfl (r61_eq hy) rfl rfl rfl ?_
          conv => whnf
          all_goals (cases h)
          all_goals exact Res.of [] rfl nw_0 (by decide) js_0 (wr_n wr_0)
        clear h; intro hb h; conv => whnf
        refine br.neg ?_ ?_; (focus (clear h; first | assumption | (simp_all; done)))
        conv => whnf
        all_goals (cases h)
        all_goals exact Res.of [] rfl nw_0 (by decide) js_0 (wr_n wr_0)
      clear h; intro hb h; conv => whnf
      refine br.pos ?_ ?_; (focus (clear h; first | assumption | (simp_all; done)))
      conv => whnf
      let t12 : Bool := (f3.1.ID == xg7.1.ID) && ((f3.1.Weight == xg7.1.Weight) && ((f3.1.State == xg7.1.State) && ((f3.1.Addr.V6 == xg7.1.Addr.V6) && ((f3.1.Addr.Hi == xg7.1.Addr.Hi) && ((f3.1.Addr.Lo == xg7.1.Addr.Lo) && true)))))
      refine br.h2 h ?_ ?_ ?_
      · rfl
      · clear h; intro hb h; conv => whnf
        all_goals (cases h)
        all_goals exact Res.of [] rfl nw_0 (by decide) js_0 (wr_n wr_0)
      clear h; intro hb h; conv => whnf
      replace h := obind.elim h; obtain ⟨a12, hy, h⟩ := h
      refine sumK.q rfl rfl (r61_eq hy) rfl rfl rfl ?_
      conv => whnf
      all_goals (cases h)
      all_goals exact Res.of [] rfl nw_0 (by decide) js_0 (wr_n wr_0)
    clear h; intro hb h; conv => whnf
    refine br.h2 h ?_ ?_ ?_
    · rfl
    · clear h; intro hb h; conv => whnf
      all_goals (cases h)
      all_goals exact Res.of [] rfl nw_0 (by decide) js_0 (wr_n wr_0)
    clear h; intro hb h; conv => whnf
    refine br.h h ?_ ?_ ?_
    · rfl
    · clear h; intro hb h; conv => whnf
      let t13 : Bool := (f3.1.ID == 0) && ((f3.1.Weight == 0) && ((f3.1.State == 0) && ((f3.1.Addr.V6 == false) && ((f3.1.Addr.Hi == 0) && ((f3.1.Addr.Lo == 0) && true)))))
      refine br.h h ?_ ?_ ?_
      · rfl
      · clear h; intro hb h; conv => whnf
        replace h := obind.elim h; obtain ⟨a13, hy, h⟩ := h
        refine sumK.q rfl rfl (r61_eq hy) rfl rfl rfl ?_
        conv => whnf
        all_goals (cases h)
        all_goals exact Res.of [] rfl nw_0 (by decide) js_0 (wr_n wr_0)
      clear h; intro hb h; conv => whnf
      refine br.neg ?_ ?_; (focus (clear h; first | assumption | (simp_all; done)))
      conv => whnf
      all_goals (cases h)
      all_goals exact Res.of [] rfl nw_0 (by decide) js_0 (wr_n wr_0)
    clear h; intro hb h; conv => whnf
    refine br.pos ?_ ?_; (focus (clear h; first | assumption | (simp_all; done)))
    conv => whnf
    let t14 : Bool := (f3.1.ID == xg7.1.ID) && ((f3.1.Weight == xg7.1.Weight) && ((f3.1.State == xg7.1.State) && ((f3.1.Addr.V6 == xg7.1.Addr.V6) && ((f3.1.Addr.Hi == xg7.1.Addr.Hi) && ((f3.1.Addr.Lo == xg7.1.Addr.Lo) && true)))))
    refine br.h2 h ?_ ?_ ?_
    · rfl
    · clear h; intro hb h; conv => whnf
      all_goals (cases h)
      all_goals exact Res.of [] rfl nw_0 (by decide) js_0 (wr_n wr_0)
    clear h; intro hb h; conv => whnf
    replace h := obind.elim h; obtain ⟨a14, hy, h⟩ := h
    refine sumK.q rfl rfl (r61_eq hy) rfl rfl rfl ?_
    conv => whnf
    all_goals (cases h)
    all_goals exact Res.of [] rfl nw_0 (by decide) js_0 (wr_n wr_0)
  clear h; intro hb h; conv => whnf
  refine br.h h ?_ ?_ ?_
  · rfl
  · clear h; intro hb h; conv => whnf
    refine br.h h ?_ ?_ ?_
    · rfl
    · clear h; intro hb h; conv => whnf
      all_goals (cases h)
      all_goals exact Res.of [] rfl nw_0 (by decide) js_0 (wr_n wr_0)
    clear h; intro hb h; conv => whnf
    refine br.neg ?_ ?_; (focus (clear h; first | assumption | (simp_all; done)))
    conv => whnf
    refine br.h h ?_ ?_ ?_
    · rfl
    · clear h; intro hb h; conv => whnf
      all_goals (cases h)
      all_goals exact Res.of [] rfl nw_0 (by decide) js_0 (wr_n wr_0)
    clear h; intro hb h; conv => whnf
    refine br.h h ?_ ?_ ?_
    · rfl
    · clear h; intro hb h; conv => whnf
      all_goals (cases h)
      all_goals exact Res.of [] rfl nw_0 (by decide) js_0 (wr_n wr_0)
    clear h; intro hb h; conv => whnf
    refine br.h h ?_ ?_ ?_
    · rfl
    · clear h; intro hb h; conv => whnf
      all_goals (cases h)
      all_goals exact Res.of [] rfl nw_0 (by decide) js_0 (wr_n wr_0)
    clear h; intro hb h; conv => whnf
    refine br.neg ?_ ?_; (focus (clear h; first | assumption | (simp_all; done)))
    conv => whnf
    replace h := obind.elim h; obtain ⟨xg, hy, h⟩ := h
    refine sumK.introF [3, 5] (sumRun_of (aqs := [.slice (some ⟨0, 0, none⟩) (l : List R23_Step).length 7]) (ws := [.win 0 0 (l.length * 7) false]) (n := 4) (m := 0) (t' := 7) (ra_cons (by first | rfl | exact ra_allT cR23_Step_len cR23_Step_flat rfl rfl (by first | rfl | omega) (by first | rfl | (simp; done)) | exact ra_slT cR23_Step_len cR23_Step_flat rfl rfl (by first | rfl | omega) (by first | rfl | omega) (by first | omega | (simp at *; omega))) rfl ra_nil) rfl (by rfl) (r66_eq hy) rfl rfl rfl rfl (wb_skip rfl wb_nil) (an_cons (rfl) (an_cons (rn_T cregistry_row_flat) (an_cons (rfl) (an_cons (rn_T cR23_Row_flat) an_nil)))) rfl) ?_
    conv => whnf
    replace h := obind.elim h; obtain ⟨f, hy, h⟩ := h
    refine sumK.introF [] (sumRun_of (aqs := [.pointer (some ⟨0, 0, none⟩), .agg ⟨[.int .u64 k.A, .int .u64 k.B]⟩, .agg ⟨[.int .i64 6, .bool t.Src.V6, .int .u64 t.Src.Hi, .int .u64 t.Src.Lo, .bool t.Dst.V6, .int .u64 t.Dst.Hi, .int .u64 t.Dst.Lo, .int .i64 t.SPort, .int .i64 t.DPort]⟩, .int .u64 (wI .u64 m)]) (ws := [.blk 3 false, .blk 4 false]) (n := 0) (m := 0) (t' := 7) (ra_cons (ra_tr rfl rfl (vp_at rfl rfl rfl rfl (vp_at rfl rfl (rn_T cregistry_row_flat) rfl vp_nil)) rfl) rfl (ra_cons rfl rfl (ra_cons rfl rfl (ra_cons rfl rfl ra_nil)))) rfl (by rfl) (r67_eq hy) rfl rfl rfl rfl (wb_skip rfl (wb_skip rfl wb_nil)) an_nil rfl) ?_
    conv => whnf
    replace h := obind.elim h; obtain ⟨xg1, hy, h⟩ := h
    refine sumK.introF [] (sumRun_of (aqs := [.pointer (some ⟨0, 0, none⟩), .int .i64 xo.1]) (ws := [.blk 3 false, .blk 4 false]) (n := 0) (m := 0) (t' := 8) (ra_cons (ra_tr rfl rfl (vp_at rfl rfl rfl rfl (vp_at rfl rfl (rn_T cregistry_row_flat) rfl vp_nil)) rfl) rfl (ra_cons rfl rfl ra_nil)) rfl (by rfl) (r18_eq hy) rfl rfl rfl rfl (wb_skip rfl (wb_skip rfl wb_nil)) an_nil rfl) ?_
    conv => whnf
    refine br.neg ?_ ?_; (focus (clear h; first | assumption | (simp_all; done)))
    conv => whnf
    refine br.h2 h ?_ ?_ ?_
    · rfl
    · clear h; intro hb h; conv => whnf
      all_goals (cases h)
      all_goals exact Res.of [] rfl nw_0 (by decide) js_0 (wr_n wr_0)
    clear h; intro hb h; conv => whnf
    refine br.h h ?_ ?_ ?_
    · rfl
    · clear h; intro hb h; conv => whnf
      let t1 : Bool := (f.1.ID == 0) && ((f.1.Weight == 0) && ((f.1.State == 0) && ((f.1.Addr.V6 == false) && ((f.1.Addr.Hi == 0) && ((f.1.Addr.Lo == 0) && true)))))
      refine br.h h ?_ ?_ ?_
      · rfl
      · clear h; intro hb h; conv => whnf
        replace h := obind.elim h; obtain ⟨a1, hy, h⟩ := h
        refine sumK.q rfl rfl (r61_eq hy) rfl rfl rfl ?_
        conv => whnf
        all_goals (cases h)
        all_goals exact Res.of [] rfl nw_0 (by decide) js_0 (wr_n wr_0)
      clear h; intro hb h; conv => whnf
      refine br.neg ?_ ?_; (focus (clear h; first | assumption | (simp_all; done)))
      conv => whnf
      all_goals (cases h)
      all_goals exact Res.of [] rfl nw_0 (by decide) js_0 (wr_n wr_0)
    clear h; intro hb h; conv => whnf
    refine br.pos ?_ ?_; (focus (clear h; first | assumption | (simp_all; done)))
    conv => whnf
    let t2 : Bool := (f.1.ID == xg1.1.ID) && ((f.1.Weight == xg1.1.Weight) && ((f.1.State == xg1.1.State) && ((f.1.Addr.V6 == xg1.1.Addr.V6) && ((f.1.Addr.Hi == xg1.1.Addr.Hi) && ((f.1.Addr.Lo == xg1.1.Addr.Lo) && true)))))
    refine br.h2 h ?_ ?_ ?_
    · rfl
    · clear h; intro hb h; conv => whnf
      all_goals (cases h)
      all_goals exact Res.of [] rfl nw_0 (by decide) js_0 (wr_n wr_0)
    clear h; intro hb h; conv => whnf
    replace h := obind.elim h; obtain ⟨a2, hy, h⟩ := h
    refine sumK.q rfl rfl (r61_eq hy) rfl rfl rfl ?_
    conv => whnf
    all_goals (cases h)
    all_goals exact Res.of [] rfl nw_0 (by decide) js_0 (wr_n wr_0)
  clear h; intro hb h; conv => whnf
  refine br.pos ?_ ?_; (focus (clear h; first | assumption | (simp_all; done)))
  conv => whnf
  refine br.h2 h ?_ ?_ ?_
  · rfl
  · clear h; intro hb h; conv => whnf
    refine br.h h ?_ ?_ ?_
    · rfl
    · clear h; intro hb h; conv => whnf
      all_goals (cases h)
      all_goals exact Res.of [] rfl nw_0 (by decide) js_0 (wr_n wr_0)
    clear h; intro hb h; conv => whnf
    refine br.h h ?_ ?_ ?_
    · rfl
    · clear h; intro hb h; conv => whnf
      all_goals (cases h)
      all_goals exact Res.of [] rfl nw_0 (by decide) js_0 (wr_n wr_0)
    clear h; intro hb h; conv => whnf
    refine br.h h ?_ ?_ ?_
    · rfl
    · clear h; intro hb h; conv => whnf
      all_goals (cases h)
      all_goals exact Res.of [] rfl nw_0 (by decide) js_0 (wr_n wr_0)
    clear h; intro hb h; conv => whnf
    refine br.pos ?_ ?_; (focus (clear h; first | assumption | (simp_all; done)))
    conv => whnf
    replace h := obind.elim h; obtain ⟨m2, hy, h⟩ := h
    refine sumK.q rfl rfl (r64_eq hy) rfl rfl rfl ?_
    conv => whnf
    refine br.h h ?_ ?_ ?_
    · rfl
    · clear h; intro hb h; conv => whnf
      all_goals (cases h)
      all_goals exact Res.of [] rfl nw_0 (by decide) js_0 (wr_n wr_0)
    clear h; intro hb h; conv => whnf
    replace h := obind.elim h; obtain ⟨xg4, hy, h⟩ := h
    refine sumK.introF [3, 5] (sumRun_of (aqs := [.slice (some ⟨0, 0, none⟩) (l : List R23_Step).length 7]) (ws := [.win 0 0 (l.length * 7) false]) (n := 4) (m := 0) (t' := 7) (ra_cons (by first | rfl | exact ra_allT cR23_Step_len cR23_Step_flat rfl rfl (by first | rfl | omega) (by first | rfl | (simp; done)) | exact ra_slT cR23_Step_len cR23_Step_flat rfl rfl (by first | rfl | omega) (by first | rfl | omega) (by first | omega | (simp at *; omega))) rfl ra_nil) rfl (by rfl) (r66_eq hy) rfl rfl rfl rfl (wb_skip rfl wb_nil) (an_cons (rfl) (an_cons (rn_T cregistry_row_flat) (an_cons (rfl) (an_cons (rn_T cR23_Row_flat) an_nil)))) rfl) ?_
    conv => whnf
    replace h := obind.elim h; obtain ⟨f2, hy, h⟩ := h
    refine sumK.introF [] (sumRun_of (aqs := [.pointer (some ⟨0, 0, none⟩), .agg ⟨[.int .u64 k.A, .int .u64 k.B]⟩, .agg ⟨[.int .i64 6, .bool t.Src.V6, .int .u64 t.Src.Hi, .int .u64 t.Src.Lo, .bool t.Dst.V6, .int .u64 t.Dst.Hi, .int .u64 t.Dst.Lo, .int .i64 t.SPort, .int .i64 t.DPort]⟩, .int .u64 (wI .u64 m)]) (ws := [.blk 3 false, .blk 4 false]) (n := 0) (m := 0) (t' := 7) (ra_cons (ra_tr rfl rfl (vp_at rfl rfl rfl rfl (vp_at rfl rfl (rn_T cregistry_row_flat) rfl vp_nil)) rfl) rfl (ra_cons rfl rfl (ra_cons rfl rfl (ra_cons rfl rfl ra_nil)))) rfl (by rfl) (r67_eq hy) rfl rfl rfl rfl (wb_skip rfl (wb_skip rfl wb_nil)) an_nil rfl) ?_
    conv => whnf
    replace h := obind.elim h; obtain ⟨xg5, hy, h⟩ := h
    refine sumK.introF [] (sumRun_of (aqs := [.pointer (some ⟨0, 0, none⟩), .int .i64 xo.1]) (ws := [.blk 3 false, .blk 4 false]) (n := 0) (m := 0) (t' := 8) (ra_cons (ra_tr rfl rfl (vp_at rfl rfl rfl rfl (vp_at rfl rfl (rn_T cregistry_row_flat) rfl vp_nil)) rfl) rfl (ra_cons rfl rfl ra_nil)) rfl (by rfl) (r18_eq hy) rfl rfl rfl rfl (wb_skip rfl (wb_skip rfl wb_nil)) an_nil rfl) ?_
    conv => whnf
    refine br.pos ?_ ?_; (focus (clear h; first | assumption | (simp_all; done)))
    conv => whnf
    refine br.h h ?_ ?_ ?_
    · rfl
    · clear h; intro hb h; conv => whnf
      refine br.h2 h ?_ ?_ ?_
      · rfl
      · clear h; intro hb h; conv => whnf
        all_goals (cases h)
        all_goals exact Res.of [] rfl nw_0 (by decide) js_0 (wr_n wr_0)
      clear h; intro hb h; conv => whnf
      refine br.h h ?_ ?_ ?_
      · rfl
      · clear h; intro hb h; conv => whnf
        let t7 : Bool := (f2.1.ID == 0) && ((f2.1.Weight == 0) && ((f2.1.State == 0) && ((f2.1.Addr.V6 == false) && ((f2.1.Addr.Hi == 0) && ((f2.1.Addr.Lo == 0) && true)))))
        refine br.h h ?_ ?_ ?_
        · rfl
        · clear h; intro hb h; conv => whnf
          replace h := obind.elim h; obtain ⟨a7, hy, h⟩ := h
          refine sumK.q rfl rfl (r61_eq hy) rfl rfl rfl ?_
          conv => whnf
          all_goals (cases h)
          all_goals exact Res.of [] rfl nw_0 (by decide) js_0 (wr_n wr_0)
        clear h; intro hb h; conv => whnf
        refine br.neg ?_ ?_; (focus (clear h; first | assumption | (simp_all; done)))
        conv => whnf
        all_goals (cases h)
        all_goals exact Res.of [] rfl nw_0 (by decide) js_0 (wr_n wr_0)
      clear h; intro hb h; conv => whnf
      refine br.pos ?_ ?_; (focus (clear h; first | assumption | (simp_all; done)))
      conv => whnf
      let t8 : Bool := (f2.1.ID == xg5.1.ID) && ((f2.1.Weight == xg5.1.Weight) && ((f2.1.State == xg5.1.State) && ((f2.1.Addr.V6 == xg5.1.Addr.V6) && ((f2.1.Addr.Hi == xg5.1.Addr.Hi) && ((f2.1.Addr.Lo == xg5.1.Addr.Lo) && true)))))
      refine br.h2 h ?_ ?_ ?_
      · rfl
      · clear h; intro hb h; conv => whnf
        all_goals (cases h)
        all_goals exact Res.of [] rfl nw_0 (by decide) js_0 (wr_n wr_0)
      clear h; intro hb h; conv => whnf
      replace h := obind.elim h; obtain ⟨a8, hy, h⟩ := h
      refine sumK.q rfl rfl (r61_eq hy) rfl rfl rfl ?_
      conv => whnf
      all_goals (cases h)
      all_goals exact Res.of [] rfl nw_0 (by decide) js_0 (wr_n wr_0)
    clear h; intro hb h; conv => whnf
    refine br.h2 h ?_ ?_ ?_
    · rfl
    · clear h; intro hb h; conv => whnf
      all_goals (cases h)
      all_goals exact Res.of [] rfl nw_0 (by decide) js_0 (wr_n wr_0)
    clear h; intro hb h; conv => whnf
    refine br.h h ?_ ?_ ?_
    · rfl
    · clear h; intro hb h; conv => whnf
      let t9 : Bool := (f2.1.ID == 0) && ((f2.1.Weight == 0) && ((f2.1.State == 0) && ((f2.1.Addr.V6 == false) && ((f2.1.Addr.Hi == 0) && ((f2.1.Addr.Lo == 0) && true)))))
      refine br.h h ?_ ?_ ?_
      · rfl
      · clear h; intro hb h; conv => whnf
        replace h := obind.elim h; obtain ⟨a9, hy, h⟩ := h
        refine sumK.q rfl rfl (r61_eq hy) rfl rfl rfl ?_
        conv => whnf
        all_goals (cases h)
        all_goals exact Res.of [] rfl nw_0 (by decide) js_0 (wr_n wr_0)
      clear h; intro hb h; conv => whnf
      refine br.neg ?_ ?_; (focus (clear h; first | assumption | (simp_all; done)))
      conv => whnf
      all_goals (cases h)
      all_goals exact Res.of [] rfl nw_0 (by decide) js_0 (wr_n wr_0)
    clear h; intro hb h; conv => whnf
    refine br.pos ?_ ?_; (focus (clear h; first | assumption | (simp_all; done)))
    conv => whnf
    let t10 : Bool := (f2.1.ID == xg5.1.ID) && ((f2.1.Weight == xg5.1.Weight) && ((f2.1.State == xg5.1.State) && ((f2.1.Addr.V6 == xg5.1.Addr.V6) && ((f2.1.Addr.Hi == xg5.1.Addr.Hi) && ((f2.1.Addr.Lo == xg5.1.Addr.Lo) && true)))))
    refine br.h2 h ?_ ?_ ?_
    · rfl
    · clear h; intro hb h; conv => whnf
      all_goals (cases h)
      all_goals exact Res.of [] rfl nw_0 (by decide) js_0 (wr_n wr_0)
    clear h; intro hb h; conv => whnf
    replace h := obind.elim h; obtain ⟨a10, hy, h⟩ := h
    refine sumK.q rfl rfl (r61_eq hy) rfl rfl rfl ?_
    conv => whnf
    all_goals (cases h)
    all_goals exact Res.of [] rfl nw_0 (by decide) js_0 (wr_n wr_0)
  clear h; intro hb h; conv => whnf
  refine br.h h ?_ ?_ ?_
  · rfl
  · clear h; intro hb h; conv => whnf
    all_goals (cases h)
    all_goals exact Res.of [] rfl nw_0 (by decide) js_0 (wr_n wr_0)
  clear h; intro hb h; conv => whnf
  refine br.h h ?_ ?_ ?_
  · rfl
  · clear h; intro hb h; conv => whnf
    all_goals (cases h)
    all_goals exact Res.of [] rfl nw_0 (by decide) js_0 (wr_n wr_0)
  clear h; intro hb h; conv => whnf
  refine br.h h ?_ ?_ ?_
  · rfl
  · clear h; intro hb h; conv => whnf
    all_goals (cases h)
    all_goals exact Res.of [] rfl nw_0 (by decide) js_0 (wr_n wr_0)
  clear h; intro hb h; conv => whnf
  refine br.h h ?_ ?_ ?_
  · rfl
  · clear h; intro hb h; conv => whnf
    all_goals (cases h)
    all_goals exact Res.of [] rfl nw_0 (by decide) js_0 (wr_n wr_0)
  clear h; intro hb h; conv => whnf
  refine br.pos ?_ ?_; (focus (clear h; first | assumption | (simp_all; done)))
  conv => whnf
  replace h := obind.elim h; obtain ⟨m1, hy, h⟩ := h
  refine sumK.q rfl rfl (r64_eq hy) rfl rfl rfl ?_
  conv => whnf
  refine br.h h ?_ ?_ ?_
  · rfl
  · clear h; intro hb h; conv => whnf
    all_goals (cases h)
    all_goals exact Res.of [] rfl nw_0 (by decide) js_0 (wr_n wr_0)
  clear h; intro hb h; conv => whnf
  replace h := obind.elim h; obtain ⟨xg2, hy, h⟩ := h
  refine sumK.introF [3, 5] (sumRun_of (aqs := [.slice (some ⟨0, 0, none⟩) (l : List R23_Step).length 7]) (ws := [.win 0 0 (l.length * 7) false]) (n := 4) (m := 0) (t' := 7) (ra_cons (by first | rfl | exact ra_allT cR23_Step_len cR23_Step_flat rfl rfl (by first | rfl | omega) (by first | rfl | (simp; done)) | exact ra_slT cR23_Step_len cR23_Step_flat rfl rfl (by first | rfl | omega) (by first | rfl | omega) (by first | omega | (simp at *; omega))) rfl ra_nil) rfl (by rfl) (r66_eq hy) rfl rfl rfl rfl (wb_skip rfl wb_nil) (an_cons (rfl) (an_cons (rn_T cregistry_row_flat) (an_cons (rfl) (an_cons (rn_T cR23_Row_flat) an_nil)))) rfl) ?_
  conv => whnf
  replace h := obind.elim h; obtain ⟨f1, hy, h⟩ := h
  refine sumK.introF [] (sumRun_of (aqs := [.pointer (some ⟨0, 0, none⟩), .agg ⟨[.int .u64 k.A, .int .u64 k.B]⟩, .agg ⟨[.int .i64 6, .bool t.Src.V6, .int .u64 t.Src.Hi, .int .u64 t.Src.Lo, .bool t.Dst.V6, .int .u64 t.Dst.Hi, .int .u64 t.Dst.Lo, .int .i64 t.SPort, .int .i64 t.DPort]⟩, .int .u64 (wI .u64 m)]) (ws := [.blk 3 false, .blk 4 false]) (n := 0) (m := 0) (t' := 7) (ra_cons (ra_tr rfl rfl (vp_at rfl rfl rfl rfl (vp_at rfl rfl (rn_T cregistry_row_flat) rfl vp_nil)) rfl) rfl (ra_cons rfl rfl (ra_cons rfl rfl (ra_cons rfl rfl ra_nil)))) rfl (by rfl) (r67_eq hy) rfl rfl rfl rfl (wb_skip rfl (wb_skip rfl wb_nil)) an_nil rfl) ?_
  conv => whnf
  replace h := obind.elim h; obtain ⟨xg3, hy, h⟩ := h
  refine sumK.introF [] (sumRun_of (aqs := [.pointer (some ⟨0, 0, none⟩), .int .i64 xo.1]) (ws := [.blk 3 false, .blk 4 false]) (n := 0) (m := 0) (t' := 8) (ra_cons (ra_tr rfl rfl (vp_at rfl rfl rfl rfl (vp_at rfl rfl (rn_T cregistry_row_flat) rfl vp_nil)) rfl) rfl (ra_cons rfl rfl ra_nil)) rfl (by rfl) (r18_eq hy) rfl rfl rfl rfl (wb_skip rfl (wb_skip rfl wb_nil)) an_nil rfl) ?_
  conv => whnf
  refine br.pos ?_ ?_; (focus (clear h; first | assumption | (simp_all; done)))
  conv => whnf
  refine br.h h ?_ ?_ ?_
  · rfl
  · clear h; intro hb h; conv => whnf
    refine br.h2 h ?_ ?_ ?_
    · rfl
    · clear h; intro hb h; conv => whnf
      all_goals (cases h)
      all_goals exact Res.of [] rfl nw_0 (by decide) js_0 (wr_n wr_0)
    clear h; intro hb h; conv => whnf
    refine br.h h ?_ ?_ ?_
    · rfl
    · clear h; intro hb h; conv => whnf
      let t3 : Bool := (f1.1.ID == 0) && ((f1.1.Weight == 0) && ((f1.1.State == 0) && ((f1.1.Addr.V6 == false) && ((f1.1.Addr.Hi == 0) && ((f1.1.Addr.Lo == 0) && true)))))
      refine br.h h ?_ ?_ ?_
      · rfl
      · clear h; intro hb h; conv => whnf
        replace h := obind.elim h; obtain ⟨a3, hy, h⟩ := h
        refine sumK.q rfl rfl (r61_eq hy) rfl rfl rfl ?_
        conv => whnf
        all_goals (cases h)
        all_goals exact Res.of [] rfl nw_0 (by decide) js_0 (wr_n wr_0)
      clear h; intro hb h; conv => whnf
      refine br.neg ?_ ?_; (focus (clear h; first | assumption | (simp_all; done)))
      conv => whnf
      all_goals (cases h)
      all_goals exact Res.of [] rfl nw_0 (by decide) js_0 (wr_n wr_0)
    clear h; intro hb h; conv => whnf
    refine br.pos ?_ ?_; (focus (clear h; first | assumption | (simp_all; done)))
    conv => whnf
    let t4 : Bool := (f1.1.ID == xg3.1.ID) && ((f1.1.Weight == xg3.1.Weight) && ((f1.1.State == xg3.1.State) && ((f1.1.Addr.V6 == xg3.1.Addr.V6) && ((f1.1.Addr.Hi == xg3.1.Addr.Hi) && ((f1.1.Addr.Lo == xg3.1.Addr.Lo) && true)))))
    refine br.h2 h ?_ ?_ ?_
    · rfl
    · clear h; intro hb h; conv => whnf
      all_goals (cases h)
      all_goals exact Res.of [] rfl nw_0 (by decide) js_0 (wr_n wr_0)
    clear h; intro hb h; conv => whnf
    replace h := obind.elim h; obtain ⟨a4, hy, h⟩ := h
    refine sumK.q rfl rfl (r61_eq hy) rfl rfl rfl ?_
    conv => whnf
    all_goals (cases h)
    all_goals exact Res.of [] rfl nw_0 (by decide) js_0 (wr_n wr_0)
  clear h; intro hb h; conv => whnf
  refine br.h2 h ?_ ?_ ?_
  · rfl
  · clear h; intro hb h; conv => whnf
    all_goals (cases h)
    all_goals exact Res.of [] rfl nw_0 (by decide) js_0 (wr_n wr_0)
  clear h; intro hb h; conv => whnf
  refine br.h h ?_ ?_ ?_
  · rfl
  · clear h; intro hb h; conv => whnf
    let t5 : Bool := (f1.1.ID == 0) && ((f1.1.Weight == 0) && ((f1.1.State == 0) && ((f1.1.Addr.V6 == false) && ((f1.1.Addr.Hi == 0) && ((f1.1.Addr.Lo == 0) && true)))))
    refine br.h h ?_ ?_ ?_
    · rfl
    · clear h; intro hb h; conv => whnf
      replace h := obind.elim h; obtain ⟨a5, hy, h⟩ := h
      refine sumK.q rfl rfl (r61_eq hy) rfl rfl rfl ?_
      conv => whnf
      all_goals (cases h)
      all_goals exact Res.of [] rfl nw_0 (by decide) js_0 (wr_n wr_0)
    clear h; intro hb h; conv => whnf
    refine br.neg ?_ ?_; (focus (clear h; first | assumption | (simp_all; done)))
    conv => whnf
    all_goals (cases h)
    all_goals exact Res.of [] rfl nw_0 (by decide) js_0 (wr_n wr_0)
  clear h; intro hb h; conv => whnf
  refine br.pos ?_ ?_; (focus (clear h; first | assumption | (simp_all; done)))
  conv => whnf
  let t6 : Bool := (f1.1.ID == xg3.1.ID) && ((f1.1.Weight == xg3.1.Weight) && ((f1.1.State == xg3.1.State) && ((f1.1.Addr.V6 == xg3.1.Addr.V6) && ((f1.1.Addr.Hi == xg3.1.Addr.Hi) && ((f1.1.Addr.Lo == xg3.1.Addr.Lo) && true)))))
  refine br.h2 h ?_ ?_ ?_
  · rfl
  · clear h; intro hb h; conv => whnf
    all_goals (cases h)
    all_goals exact Res.of [] rfl nw_0 (by decide) js_0 (wr_n wr_0)
  clear h; intro hb h; conv => whnf
  replace h := obind.elim h; obtain ⟨a6, hy, h⟩ := h
  refine sumK.q rfl rfl (r61_eq hy) rfl rfl rfl ?_
  conv => whnf
  all_goals (cases h)
  all_goals exact Res.of [] rfl nw_0 (by decide) js_0 (wr_n wr_0)
def law32_StatelessForged : api_Key → api_Tuple → Int → Int → (List R23_Step) → Option Bool := law32_StatelessForgedF law32_awake law32_grown registry_Registry_Get registry_Registry_Get_nil stateless_Find stateless_Find_nil stateless_Make stateless_Open
end Go.Vm.Code
namespace Go.Vm.Code
open Go Go.Vm
def growSt (i : Nat) (g : registry_Registry) : Int × Int × Int × Int × Int × Int × Int × Int × Int × (List registry_row) × (List R23_Row) :=
  ((i : Int), g.rule.Rise, g.rule.Fall, g.last, g.version, g.rule.Rise, g.rule.Fall, g.last, g.version, g.rows, g.rows.map cv)
theorem grow_step {l : List R23_Step} (hl : l.length ≤ 30) {i : Nat} (hi : i < l.length) {g : registry_Registry} (h : RI (i : Int) g) : ∃ g', RI ((i + 1 : Nat) : Int) g' ∧
    law32_grown_s1 R23_Registry_Add R23_Registry_Drain R23_Registry_Remove registry_Registry_Add registry_Registry_Drain registry_Registry_Remove l i g.rule.Rise g.rule.Fall g.last g.version g.rule.Rise g.rule.Fall g.last g.version g.rows (g.rows.map cv) = some (.inl (growSt (i + 1) g')) := by
  unfold law32_grown_s1
  have hN : (i : Int) < 2 ^ 40 := by omega
  have e0 : registry_Registry.mk (health_Rule.mk g.rule.Rise g.rule.Fall) g.rows g.last g.version = g := rfl
  have e1 : R23_Registry.mk (health_Rule.mk g.rule.Rise g.rule.Fall) (g.rows.map cv) g.last g.version = cnv g := rfl
  have ec : ((i + 1 : Nat) : Int) = (i : Int) + 1 := by omega
  have stay : RI ((i + 1 : Nat) : Int) g := h.mono (by omega)
  have ok : ((0 : Int) ≤ (i : Int) ∧ (i : Int) < (l.length : Int)) := ⟨by omega, by omega⟩
  rw [cond_p (by omega), oreq_p ok, Int.toNat_natCast, List.getElem?_eq_getElem hi, Option.bind_some, e0, e1, wI64 (n := (i : Int) + 1) (by omega) (by omega), ← ec]
  generalize l[i] = e
  simp only [oreq_p ok]
  cases h0 : e.Kind == 0 with
  | true =>
    rw [cond_true, add_eq h hN, Option.bind_some, radd_eq h hN, Option.bind_some]
    exact ⟨(addG g e.N e.Addr).2.2, by rw [ec]; exact add_RI h _ _, rfl⟩
  | false =>
  rw [cond_false]
  cases h1 : e.Kind == 1 with
  | true =>
    rw [cond_true]
    rcases rid_dec g e.ID with ⟨k, r, hk, eid⟩ | hn
    · rw [← eid, remove_yes h hN hk, Option.bind_some, rremove_yes h hN hk, Option.bind_some]
      exact ⟨remG g k, by rw [ec]; exact rem_RI h k, rfl⟩
    · rw [remove_no h hn, Option.bind_some, rremove_no h hn, Option.bind_some]
      exact ⟨g, stay, rfl⟩
  | false =>
  rw [cond_false]
  cases h2 : e.Kind == 2 with
  | true =>
    rw [cond_true]
    rcases rid_dec g e.ID with ⟨k, r, hk, eid⟩ | hn
    · rw [← eid, drain_yes h hN hk, Option.bind_some, rdrain_yes h hN hk, Option.bind_some]
      by_cases c : r.drains = e.On
      · rw [if_pos c, if_pos c]; exact ⟨g, stay, rfl⟩
      · rw [if_neg c, if_neg c]
        exact ⟨updR g k ⟨r.Backend, e.On, r.health⟩ 1, by rw [ec]; exact h.upd hk (by rfl) (by decide) (by decide), rfl⟩
    · rw [drain_no h hn, Option.bind_some, rdrain_no h hn, Option.bind_some]
      exact ⟨g, stay, rfl⟩
  | false =>
    rw [cond_false]
    exact ⟨g, stay, rfl⟩
theorem grown_step (l : List R23_Step) (hl : l.length ≤ 30) : ∀ (d i : Nat) (n : Nat) (g : registry_Registry), i + d = l.length → d < n → RI (i : Int) g → ∃ g', RI (100 : Int) g' ∧ iter (fun st => law32_grown_s1 R23_Registry_Add R23_Registry_Drain R23_Registry_Remove registry_Registry_Add registry_Registry_Drain registry_Registry_Remove l st.1 st.2.1 st.2.2.1 st.2.2.2.1 st.2.2.2.2.1 st.2.2.2.2.2.1 st.2.2.2.2.2.2.1 st.2.2.2.2.2.2.2.1 st.2.2.2.2.2.2.2.2.1 st.2.2.2.2.2.2.2.2.2.1 st.2.2.2.2.2.2.2.2.2.2) n (growSt i g) = some (g', cnv g')
  | 0, i, n, g, he, hn, h => by
    obtain ⟨m, rfl⟩ : ∃ m, n = m + 1 := ⟨n - 1, by omega⟩
    refine ⟨g, h.mono (by omega), ?_⟩
    rw [iter]
    simp only [growSt]
    unfold law32_grown_s1
    rw [cond_n (by omega)]; rfl
  | d + 1, i, n, g, he, hn, h => by
    obtain ⟨m, rfl⟩ : ∃ m, n = m + 1 := ⟨n - 1, by omega⟩
    obtain ⟨g', h', e⟩ := grow_step hl (show i < l.length by omega) h
    obtain ⟨g2, h2, e2⟩ := grown_step l hl d (i + 1) m g' (by omega) (by omega) h'
    refine ⟨g2, h2, ?_⟩
    rw [iter]
    simp only [growSt] at e ⊢
    rw [e]
    exact e2
theorem grown_eq {l : List R23_Step} (hl : l.length ≤ 30) : ∃ g, RI (100 : Int) g ∧ law32_grown l = some (g, cnv g) := by
  unfold law32_grown law32_grownF
  rw [hright_eq, rright_eq, Option.bind_some, Option.bind_some, show ruleB ⟨1, 1⟩ = true from by decide, oreq.mk rfl, oreq.mk rfl]
  have hi : RI ((0 : Nat) : Int) (registry_Registry.mk ⟨1, 1⟩ [] 0 0) := { rule := by decide, len := by simp, last0 := by simp, last1 := by simp, ver0 := by simp, ver1 := by simp, ids := by simp, up := by simp }
  obtain ⟨g, h1, h2⟩ := grown_step l hl l.length 0 FUEL _ (by omega) (by rw [FUEL_eq]; omega) hi
  have e : growSt 0 ⟨⟨1, 1⟩, [], 0, 0⟩ = (0, 1, 1, 0, 0, 1, 1, 0, 0, [], []) := rfl
  rw [e] at h2
  exact ⟨g, h1, h2⟩
theorem awake32 : law32_awake = some true := by decide +kernel
theorem fnd_yes {o : Int × Bool} {r : registry_row} (ho : o.2 = true) : fnd o (tld r, true) = (tld r, true) := by
  have h4 : (tld r).State ≠ 4 := by
    simp only [tld]
    cases r.drains <;> cases r.health.Up <;> decide
  unfold fnd
  rw [if_pos ⟨ho, rfl, h4⟩]
theorem fnd_no {o : Int × Bool} {c : Prop} [Decidable c] {id : Int} : fnd o (if c then (goneB id, true) else (noB, false)) = (noB, false) := by
  unfold fnd
  by_cases h : c
  · rw [if_pos h, if_neg (fun q => q.2.2 rfl)]
  · rw [if_neg h, if_neg (fun q => absurd q.2.1 (by decide))]
def t6 (t : api_Tuple) : api_Tuple := ⟨6, t.Src, t.Dst, t.SPort, t.DPort⟩
theorem wid6 (t : api_Tuple) : widS (t6 t) = 16 := rfl
theorem op6 (k : api_Key) (t : api_Tuple) {n : Nat} (hn : n < 65536) : opI k (t6 t) n = if mkS k (t6 t) n = 0 then (0, false) else (((mkS k (t6 t) n : Nat) : Int), true) := by
  have := mkS_lt k (t6 t) n
  rw [wid6] at this
  unfold opI
  rw [wid6]
  by_cases h : mkS k (t6 t) n = 0
  · rw [if_pos h, if_neg (by omega)]
  · rw [if_neg h, if_pos ⟨by omega, by omega, by omega⟩]
theorem op6_beyond (k : api_Key) (t : api_Tuple) {n : Nat} (hn : 65536 ≤ n) : (opI k (t6 t) n).2 = false := by
  unfold opI
  rw [wid6, if_neg (by omega)]
def endF (f xg : api_Backend × Bool) (p : Bool) : Option Bool :=
  cond (f.2 == (p && (xg.2 && (xg.1.State != 4)))) (cond (!f.2) (cond (beqB f.1 noB) (some true) (some false)) (cond (beqB f.1 xg.1) (some true) (some false))) (some false)
theorem endF_eq {o : Int × Bool} {g : registry_Registry} (hg : RI 100 g) : ∃ b, registry_Registry_Get g o.1 = some b ∧ endF (fnd o b) b o.2 = some true := by
  rcases rid_dec g o.1 with ⟨j, r, hk, eid⟩ | hn
  · refine ⟨(tld r, true), by rw [← eid]; exact get_yes hg hk, ?_⟩
    have h4 : (tld r).State ≠ 4 := by
      simp only [tld]
      cases r.drains <;> cases r.health.Up <;> decide
    cases ho : o.2 with
    | true =>
      rw [fnd_yes ho]
      unfold endF
      rw [show ((tld r).State != 4) = true from by rw [bne_iff_ne]; exact h4]
      simp [(beqB_iff (tld r) (tld r)).2 rfl]
    | false =>
      unfold fnd endF
      rw [if_neg (by rw [ho]; simp)]
      simp [(beqB_iff noB noB).2 rfl]
  · refine ⟨_, get_no hg hn, ?_⟩
    rw [fnd_no]
    unfold endF
    have e : (o.2 && ((if 1 ≤ o.1 ∧ o.1 ≤ g.last then (goneB o.1, true) else (noB, false)).2 && ((if 1 ≤ o.1 ∧ o.1 ≤ g.last then (goneB o.1, true) else (noB, false)).1.State != 4))) = false := by
      split <;> simp [goneB]
    rw [e]
    simp [(beqB_iff noB noB).2 rfl]
theorem chk6 {α : Type} (p : Bool) (x : Int) (X f : Option α) (hp : p = decide (x > 0)) (h0 : 0 ≤ x) (h1 : x ≤ 65535) : cond (!(p == decide (x > 0))) f (cond (decide (x < 0)) f (cond (decide (x > 65535)) f X)) = X := by
  rw [hp, show (decide (x > 0) == decide (x > 0)) = true from by simp]
  simp only [Bool.not_true, cond_false]
  rw [cond_n (by omega), cond_n (by omega)]
theorem statelessForged (k : api_Key) (t : api_Tuple) (m n : Int) (l : List R23_Step) (hm : 0 ≤ m ∧ m < 65536) (hn : 0 ≤ n ∧ n < 65536) (hs : inU t.Src) (hd : inU t.Dst) : law32_StatelessForged k t m n l = some true := by
  unfold law32_StatelessForged law32_StatelessForgedF
  rw [awake32, Option.bind_some]
  by_cases hl : (l.length : Int) > 30
  · rw [cond_p hl]
  rw [cond_n hl]
  obtain ⟨g, hg, eg⟩ := grown_eq (l := l) (by omega)
  obtain ⟨a, rfl⟩ := Int.eq_ofNat_of_zero_le hm.1
  obtain ⟨b, rfl⟩ := Int.eq_ofNat_of_zero_le hn.1
  have hs6 : inU (t6 t).Src := hs
  have hd6 : inU (t6 t).Dst := hd
  show ((stateless_Open k (t6 t) (wI .u64 (a : Int))).bind fun xo => (stateless_Open k (t6 t) (wI .u64 (b : Int))).bind fun xo1 => (stateless_Open k (t6 t) (wI .u64 ((wI .u64 (a : Int)) + 65536))).bind fun xo2 => _) = _
  rw [wU64 (n := (a : Int)) (by omega) (by omega), wU64 (n := (b : Int)) (by omega) (by omega), wU64 (n := (a : Int) + 65536) (by omega) (by omega), show (a : Int) + 65536 = ((a + 65536 : Nat) : Int) by omega]
  rw [sopen_eq (by omega) hs6 hd6, Option.bind_some, sopen_eq (by omega) hs6 hd6, Option.bind_some, sopen_eq (by omega) hs6 hd6, Option.bind_some, op6_beyond k t (by omega)]
  simp only [cond_false]
  obtain ⟨bk, hb, he⟩ := endF_eq (o := opI k (t6 t) a) hg
  have hf := sfind_eq (k := k) (t := t6 t) (n := a) (by omega) hs6 hd6 hb
  rw [eg]
  simp only [Option.bind_some]
  have hf' : stateless_Find g k ⟨6, t.Src, t.Dst, t.SPort, t.DPort⟩ (a : Int) = some (fnd (opI k (t6 t) a) bk) := hf
  rw [hf', hb]
  simp only [Option.bind_some]
  have hmk : ∀ x : Int, stateless_Make k ⟨6, t.Src, t.Dst, t.SPort, t.DPort⟩ x = stateless_Make k (t6 t) x := fun _ => rfl
  simp only [hmk]
  have oa := op6 k t (n := a) (by omega)
  have ob := op6 k t (n := b) (by omega)
  have la := mkS_lt k (t6 t) a; have lb := mkS_lt k (t6 t) b
  rw [wid6] at la lb
  have mk_back : mkS k (t6 t) a ≠ 0 → stateless_Make k (t6 t) ((mkS k (t6 t) a : Nat) : Int) = some (a : Int) := fun h => by
    rw [smake_eq ⟨by omega, by omega⟩ hs6 hd6]
    unfold ckI
    rw [if_pos ⟨by omega, by omega⟩, Int.toNat_natCast, mkS_back (by rw [wid6]; omega)]
  unfold endF at he
  generalize fnd (opI k (t6 t) a) bk = f at he ⊢
  have hne : ((a : Int) != (b : Int)) = true → ¬ (mkS k (t6 t) a = mkS k (t6 t) b) := fun h e => by
    rw [bne_iff_ne] at h
    exact h (by rw [mkS_inj (by rw [wid6]; omega) (by rw [wid6]; omega) e])
  by_cases ha : mkS k (t6 t) a = 0
  · rw [if_pos ha] at oa
    rw [oa] at he ⊢
    cases hab : (a : Int) != (b : Int) with
    | true =>
      have hbn : ¬ mkS k (t6 t) b = 0 := fun e => hne hab (by rw [ha, e])
      rw [if_neg hbn] at ob
      rw [ob]
      simp only [cond_true, cond_false, Bool.not_false, Bool.not_true]
      rw [chk6 false 0 _ _ (by decide) (by decide) (by decide)]
      exact he
    | false =>
      simp only [cond_false]
      rw [chk6 false 0 _ _ (by decide) (by decide) (by decide)]
      exact he
  · rw [if_neg ha] at oa
    rw [oa] at he ⊢
    have hd1 : true = decide (((mkS k (t6 t) a : Nat) : Int) > 0) := by rw [decide_eq_true]; omega
    have tail : ∀ X : Option Bool, X = cond bk.2
        (cond (f.2 == (bk.1.State != 4)) (cond (!f.2) (cond (beqB f.1 noB) (some true) (some false)) (cond (beqB f.1 bk.1) (some true) (some false))) (some false))
        (cond (f.2 == false) (cond (!f.2) (cond (beqB f.1 noB) (some true) (some false)) (cond (beqB f.1 bk.1) (some true) (some false))) (some false)) → X = some true := by
      rintro X rfl
      cases hb2 : bk.2 with
      | true => rw [hb2] at he; exact he
      | false => rw [hb2] at he; exact he
    cases hab : (a : Int) != (b : Int) with
    | true =>
      by_cases hbn : mkS k (t6 t) b = 0
      · rw [if_pos hbn] at ob
        rw [ob]
        simp only [cond_true, cond_false, Bool.not_false, Bool.not_true]
        rw [chk6 _ _ _ _ hd1 (by omega) (by omega), mk_back ha, Option.bind_some, show ((a : Int) != (a : Int)) = false from by simp, cond_false]
        exact tail _ rfl
      · rw [if_neg hbn] at ob
        rw [ob]
        simp only [cond_true, cond_false, Bool.not_false, Bool.not_true]
        rw [show (((mkS k (t6 t) a : Nat) : Int) == ((mkS k (t6 t) b : Nat) : Int)) = false from by rw [beq_eq_false_iff_ne]; have := hne hab; omega, cond_false]
        rw [chk6 _ _ _ _ hd1 (by omega) (by omega), mk_back ha, Option.bind_some, show ((a : Int) != (a : Int)) = false from by simp, cond_false]
        exact tail _ rfl
    | false =>
      simp only [cond_false, cond_true]
      rw [chk6 _ _ _ _ hd1 (by omega) (by omega), mk_back ha, Option.bind_some, show ((a : Int) != (a : Int)) = false from by simp, cond_false]
      exact tail _ rfl
end Go.Vm.Code
