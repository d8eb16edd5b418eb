import Derived.Test.YtadhjooghfdloaaNRekeyOpensd
namespace Go.Vm.Code
open Go Go.Vm Go.Proofs
set_option maxRecDepth 100000
set_option maxHeartbeats 4000000
set_option linter.unusedVariables false
def law54_RekeyOpensF (R32_Open : api_Key → api_Tuple → Int → Option (Int × Bool)) (law54_awake : Option Bool) (rekey_Keys_Go : rekey_Keys → Int → Option (Int × rekey_Keys)) (rekey_Keys_Key : rekey_Keys → Option (api_Key × rekey_Keys)) (rekey_Keys_Key_nil : Option api_Key) (rekey_Keys_Make : rekey_Keys → api_Tuple → Int → Option (Int × rekey_Keys)) (rekey_Keys_Open : rekey_Keys → api_Tuple → Int → Option (Int × Bool × Bool × rekey_Keys)) (rekey_Keys_Open_nil : api_Tuple → Int → Option (Int × Bool × Bool)) (rekey_Keys_Turn : rekey_Keys → Int → Option (Int × rekey_Keys)) (rekey_Keys_Turn_nil : Int → Option Int) (rekey_New : api_Key → Option rekey_Keys) (k : api_Key) (t : api_Tuple) (ida2 : Int) (n : Int) (now : Int) : Option Bool :=
  let t1 := if (wI .i64 ida2) > 1 then wI .i64 ida2 else 1
  (rekey_New k).bind fun n1 =>
  (rekey_Keys_Make n1 t t1).bind fun m =>
  (rekey_Keys_Open m.2 t m.1).bind fun xo =>
  cond (!xo.2.2.1)
    (
    some (false))
    (
    cond (xo.2.1)
      (
      some (false))
      (
      cond (xo.1 != t1)
        (
        some (false))
        (
        (rekey_Keys_Turn xo.2.2.2 (wI .i64 (1 + ((wI .i64 n).tmod 1000)))).bind fun t2 =>
        cond (t2.1 != 0)
          (
          some (false))
          (
          (rekey_Keys_Turn t2.2 1).bind fun t3 =>
          cond (t3.1 != 11)
            (
            some (false))
            (
            (rekey_Keys_Go t3.2 ((wI .i64 now).tmod 2001)).bind fun xg =>
            cond (xg.1 != 0)
              (
              some (false))
              (
              (rekey_Keys_Key xg.2).bind fun k1 =>
              (R32_Open k1.1 t m.1).bind fun xo1 =>
              (rekey_Keys_Open k1.2 t m.1).bind fun xo2 =>
              cond (xo1.2)
                (
                cond (xo2.2.2.1)
                  (
                  cond (!xo2.2.1)
                    (
                    cond (xo2.1 == xo1.1)
                      (
                      (law54_awake).bind fun a =>
                      some (a))
                      (
                      some (false)))
                    (
                    some (false)))
                  (
                  some (false)))
                (
                let t4 := decide (((wI .i64 now).tmod 2001) < (wI .i64 (1 + ((wI .i64 n).tmod 1000))))
                cond (t4)
                  (
                  cond (xo2.2.2.1)
                    (
                    cond (xo2.2.1)
                      (
                      cond (xo2.1 == t1)
                        (
                        (law54_awake).bind fun a1 =>
                        some (a1))
                        (
                        some (false)))
                      (
                      some (false)))
                    (
                    some (false)))
                  (
                  cond (!xo2.2.2.1)
                    (
                    cond (!xo2.2.1)
                      (
                      cond (xo2.1 == 0)
                        (
                        (law54_awake).bind fun a2 =>
                        some (a2))
                        (
                        some (false)))
                      (
                      some (false)))
                    (
                    some (false))))))))))
def rx7 (x : Bool) : SRes := ⟨.bool x, [], []⟩
abbrev sums7 (R32_Open : api_Key → api_Tuple → Int → Option (Int × Bool)) (law54_awake : Option Bool) (rekey_Keys_Go : rekey_Keys → Int → Option (Int × rekey_Keys)) (rekey_Keys_Key : rekey_Keys → Option (api_Key × rekey_Keys)) (rekey_Keys_Key_nil : Option api_Key) (rekey_Keys_Make : rekey_Keys → api_Tuple → Int → Option (Int × rekey_Keys)) (rekey_Keys_Open : rekey_Keys → api_Tuple → Int → Option (Int × Bool × Bool × rekey_Keys)) (rekey_Keys_Open_nil : api_Tuple → Int → Option (Int × Bool × Bool)) (rekey_Keys_Turn : rekey_Keys → Int → Option (Int × rekey_Keys)) (rekey_Keys_Turn_nil : Int → Option Int) (rekey_New : api_Key → Option rekey_Keys) : List (Nat × Summ) := [(46, s46 R32_Open), (32, s32 law54_awake), (36, s36 rekey_Keys_Go), (43, s43 rekey_Keys_Key rekey_Keys_Key_nil), (39, s39 rekey_Keys_Make), (40, s40 rekey_Keys_Open rekey_Keys_Open_nil), (34, s34 rekey_Keys_Turn rekey_Keys_Turn_nil), (33, s33 rekey_New)]
theorem leads7 (R32_Open : api_Key → api_Tuple → Int → Option (Int × Bool)) (law54_awake : Option Bool) (rekey_Keys_Go : rekey_Keys → Int → Option (Int × rekey_Keys)) (rekey_Keys_Key : rekey_Keys → Option (api_Key × rekey_Keys)) (rekey_Keys_Key_nil : Option api_Key) (rekey_Keys_Make : rekey_Keys → api_Tuple → Int → Option (Int × rekey_Keys)) (rekey_Keys_Open : rekey_Keys → api_Tuple → Int → Option (Int × Bool × Bool × rekey_Keys)) (rekey_Keys_Open_nil : api_Tuple → Int → Option (Int × Bool × Bool)) (rekey_Keys_Turn : rekey_Keys → Int → Option (Int × rekey_Keys)) (rekey_Keys_Turn_nil : Int → Option Int) (rekey_New : api_Key → Option rekey_Keys) (hS : SumsOK Try.prog (aget (sums7 R32_Open law54_awake rekey_Keys_Go rekey_Keys_Key rekey_Keys_Key_nil rekey_Keys_Make rekey_Keys_Open rekey_Keys_Open_nil rekey_Keys_Turn rekey_Keys_Turn_nil rekey_New))) (k : api_Key) (t : api_Tuple) (ida2 : Int) (n : Int) (now : Int) (res : Bool) (h : law54_RekeyOpensF R32_Open law54_awake rekey_Keys_Go rekey_Keys_Key rekey_Keys_Key_nil rekey_Keys_Make rekey_Keys_Open rekey_Keys_Open_nil rekey_Keys_Turn rekey_Keys_Turn_nil rekey_New k t ida2 n now = some res) :
    Leads Try.prog 7 0 ⟨⟨7, 133, [(0, .agg ⟨[.int .u64 k.A, .int .u64 k.B]⟩), (1, .agg ⟨[.int .i64 t.Proto, .bool t.Src.V6, .int .u64 t.Src.Hi, .int .u64 t.Src.Lo, .bool t.Dst.V6, .int .u64 t.Dst.Hi, .int .u64 t.Dst.Lo, .int .i64 t.SPort, .int .i64 t.DPort]⟩), (2, .int .u16 ida2), (3, .int .u16 n), (4, .int .u16 now)], [.code k7_33], [], false, none⟩, [], [], 0⟩ (fun v H _ => Res 0 (rx7 res) v H) := by
  unfold law54_RekeyOpensF at h
  refine ev_ok tab_ok hS true 3000 ?_
  conv => whnf
  let t1 : Int := if (wI .i64 ida2) > 1 then wI .i64 ida2 else 1
  replace h := obind.elim h; obtain ⟨n1, hy, h⟩ := h
  refine sumK.introF [2] (sumRun_of (aqs := [.agg ⟨[.int .u64 k.A, .int .u64 k.B]⟩]) (ws := []) (n := 1) (m := 0) (t' := 3) (ra_cons rfl rfl ra_nil) rfl (by rfl) (r33_eq hy) rfl rfl rfl rfl wb_nil (an_cons (rfl) an_nil) rfl) ?_
  conv => whnf
  replace h := obind.elim h; obtain ⟨m, hy, h⟩ := h
  refine sumK.introF [2] (sumRun_of (aqs := [.pointer (some ⟨0, 0, none⟩), .agg ⟨[.int .i64 t.Proto, .bool t.Src.V6, .int .u64 t.Src.Hi, .int .u64 t.Src.Lo, .bool t.Dst.V6, .int .u64 t.Dst.Hi, .int .u64 t.Dst.Lo, .int .i64 t.SPort, .int .i64 t.DPort]⟩, .int .i64 t1]) (ws := [.win 2 0 7 true]) (n := 0) (m := 0) (t' := 3) (ra_cons rfl rfl (ra_cons rfl rfl (ra_cons rfl rfl ra_nil))) rfl (by rfl) (r39_eq hy) rfl rfl rfl rfl (wb_win rfl rfl rfl ⟨rfl, Nat.le_of_ble_eq_true rfl⟩ rfl rfl wb_nil) an_nil rfl) ?_
  conv => whnf
  replace h := obind.elim h; obtain ⟨xo, hy, h⟩ := h
  refine sumK.introF [2] (sumRun_of (aqs := [.pointer (some ⟨0, 0, none⟩), .agg ⟨[.int .i64 t.Proto, .bool t.Src.V6, .int .u64 t.Src.Hi, .int .u64 t.Src.Lo, .bool t.Dst.V6, .int .u64 t.Dst.Hi, .int .u64 t.Dst.Lo, .int .i64 t.SPort, .int .i64 t.DPort]⟩, .int .u64 m.1]) (ws := [.win 2 0 7 true]) (n := 0) (m := 0) (t' := 3) (ra_cons rfl rfl (ra_cons rfl rfl (ra_cons rfl rfl ra_nil))) rfl (by rfl) (r40_eq hy) rfl rfl rfl rfl (wb_win rfl rfl rfl ⟨rfl, Nat.le_of_ble_eq_true rfl⟩ rfl rfl wb_nil) an_nil rfl) ?_
  conv => whnf
  refine br.h h ?_ ?_ ?_
  · rfl
  · clear h; intro hb h; conv => whnf
    all_goals (cases h; exact Res.z rfl rfl rfl)
  clear h; intro hb h; conv => whnf
  refine br.h h ?_ ?_ ?_
  · rfl
  · clear h; intro hb h; conv => whnf
    all_goals (cases h; exact Res.z rfl rfl rfl)
  clear h; intro hb h; conv => whnf
  refine br.h h ?_ ?_ ?_
  · rfl
  · clear h; intro hb h; conv => whnf
    all_goals (cases h; exact Res.z rfl rfl rfl)
  clear h; intro hb h; conv => whnf
  replace h := obind.elim h; obtain ⟨t2, hy, h⟩ := h
  refine sumK.introF [2] (sumRun_of (aqs := [.pointer (some ⟨0, 0, none⟩), .int .i64 (wI .i64 (1 + ((wI .i64 n).tmod 1000)))]) (ws := [.win 2 0 7 true]) (n := 0) (m := 0) (t' := 3) (ra_cons rfl rfl (ra_cons rfl rfl ra_nil)) rfl (by rfl) (r34_eq hy) rfl rfl rfl rfl (wb_win rfl rfl rfl ⟨rfl, Nat.le_of_ble_eq_true rfl⟩ rfl rfl wb_nil) an_nil rfl) ?_
  conv => whnf
  refine br.h h ?_ ?_ ?_
  · rfl
  · clear h; intro hb h; conv => whnf
    all_goals (cases h; exact Res.z rfl rfl rfl)
  clear h; intro hb h; conv => whnf
  replace h := obind.elim h; obtain ⟨t3, hy, h⟩ := h
  refine sumK.introF [2] (sumRun_of (aqs := [.pointer (some ⟨0, 0, none⟩), .int .i64 1]) (ws := [.win 2 0 7 true]) (n := 0) (m := 0) (t' := 3) (ra_cons rfl rfl (ra_cons rfl rfl ra_nil)) rfl (by rfl) (r34_eq hy) rfl rfl rfl rfl (wb_win rfl rfl rfl ⟨rfl, Nat.le_of_ble_eq_true rfl⟩ rfl rfl wb_nil) an_nil rfl) ?_
  conv => whnf
  refine br.h h ?_ ?_ ?_
  · rfl
  · clear h; intro hb h; conv => whnf
    all_goals (cases h; exact Res.z rfl rfl rfl)
  clear h; intro hb h; conv => whnf
  replace h := obind.elim h; obtain ⟨xg, hy, h⟩ := h
  refine sumK.introF [2] (sumRun_of (aqs := [.pointer (some ⟨0, 0, none⟩), .int .i64 ((wI .i64 now).tmod 2001)]) (ws := [.win 2 0 7 true]) (n := 0) (m := 0) (t' := 3) (ra_cons rfl rfl (ra_cons rfl rfl ra_nil)) rfl (by rfl) (r36_eq hy) rfl rfl rfl rfl (wb_win rfl rfl rfl ⟨rfl, Nat.le_of_ble_eq_true rfl⟩ rfl rfl wb_nil) an_nil rfl) ?_
  conv => whnf
  refine br.h h ?_ ?_ ?_
  · rfl
  · clear h; intro hb h; conv => whnf
    all_goals (cases h; exact Res.z rfl rfl rfl)
  clear h; intro hb h; conv => whnf
  replace h := obind.elim h; obtain ⟨k1, hy, h⟩ := h
  refine sumK.introF [2] (sumRun_of (aqs := [.pointer (some ⟨0, 0, none⟩)]) (ws := [.win 2 0 7 true]) (n := 0) (m := 0) (t' := 4) (ra_cons rfl rfl ra_nil) rfl (by rfl) (r43_eq hy) rfl rfl rfl rfl (wb_win rfl rfl rfl ⟨rfl, Nat.le_of_ble_eq_true rfl⟩ rfl rfl wb_nil) an_nil rfl) ?_
  conv => whnf
  replace h := obind.elim h; obtain ⟨xo1, hy, h⟩ := h
  refine sumK.q rfl rfl (r46_eq hy) rfl rfl rfl ?_
  conv => whnf
  replace h := obind.elim h; obtain ⟨xo2, hy, h⟩ := h
  refine sumK.introF [2] (sumRun_of (aqs := [.pointer (some ⟨0, 0, none⟩), .agg ⟨[.int .i64 t.Proto, .bool t.Src.V6, .int .u64 t.Src.Hi, .int .u64 t.Src.Lo, .bool t.Dst.V6, .int .u64 t.Dst.Hi, .int .u64 t.Dst.Lo, .int .i64 t.SPort, .int .i64 t.DPort]⟩, .int .u64 m.1]) (ws := [.win 2 0 7 true]) (n := 0) (m := 0) (t' := 12) (ra_cons rfl rfl (ra_cons rfl rfl (ra_cons rfl rfl ra_nil))) rfl (by rfl) (r40_eq hy) rfl rfl rfl rfl (wb_win rfl rfl rfl ⟨rfl, Nat.le_of_ble_eq_true rfl⟩ rfl rfl wb_nil) an_nil rfl) ?_
  conv => whnf
  refine br.h h ?_ ?_ ?_
  · rfl
  · clear h; intro hb h; conv => whnf
    refine br.h2 h ?_ ?_ ?_
    · rfl
    · clear h; intro hb h; conv => whnf
      all_goals (cases h; exact Res.z rfl rfl rfl)
    clear h; intro hb h; conv => whnf
    refine br.h2 h ?_ ?_ ?_
    · rfl
    · clear h; intro hb h; conv => whnf
      all_goals (cases h; exact Res.z rfl rfl rfl)
    clear h; intro hb h; conv => whnf
    refine br.h2 h ?_ ?_ ?_
    · rfl
    · clear h; intro hb h; conv => whnf
      all_goals (cases h; exact Res.z rfl rfl rfl)
    clear h; intro hb h; conv => whnf
    replace h := obind.elim h; obtain ⟨a, hy, h⟩ := h
    refine sumK.q rfl rfl (r32_eq hy) rfl rfl rfl ?_
    conv => whnf
    all_goals (cases h; exact Res.z rfl rfl rfl)
  clear h; intro hb h; conv => whnf
  let t4 : Bool := decide (((wI .i64 now).tmod 2001) < (wI .i64 (1 + ((wI .i64 n).tmod 1000))))
  refine br.h h ?_ ?_ ?_
  · rfl
  · clear h; intro hb h; conv => whnf
    refine br.h2 h ?_ ?_ ?_
    · rfl
    · clear h; intro hb h; conv => whnf
      all_goals (cases h; exact Res.z rfl rfl rfl)
    clear h; intro hb h; conv => whnf
    refine br.h2 h ?_ ?_ ?_
    · rfl
    · clear h; intro hb h; conv => whnf
      all_goals (cases h; exact Res.z rfl rfl rfl)
    clear h; intro hb h; conv => whnf
    refine br.h2 h ?_ ?_ ?_
    · rfl
    · clear h; intro hb h; conv => whnf
      all_goals (cases h; exact Res.z rfl rfl rfl)
    clear h; intro hb h; conv => whnf
    replace h := obind.elim h; obtain ⟨a1, hy, h⟩ := h
    refine sumK.q rfl rfl (r32_eq hy) rfl rfl rfl ?_
    conv => whnf
    all_goals (cases h; exact Res.z rfl rfl rfl)
  clear h; intro hb h; conv => whnf
  refine br.h2 h ?_ ?_ ?_
  · rfl
  · clear h; intro hb h; conv => whnf
    all_goals (cases h; exact Res.z rfl rfl rfl)
  clear h; intro hb h; conv => whnf
  refine br.h2 h ?_ ?_ ?_
  · rfl
  · clear h; intro hb h; conv => whnf
    all_goals (cases h; exact Res.z rfl rfl rfl)
  clear h; intro hb h; conv => whnf
  refine br.h2 h ?_ ?_ ?_
  · rfl
  · clear h; intro hb h; conv => whnf
    all_goals (cases h; exact Res.z rfl rfl rfl)
  clear h; intro hb h; conv => whnf
  replace h := obind.elim h; obtain ⟨a2, hy, h⟩ := h
  refine sumK.q rfl rfl (r32_eq hy) rfl rfl rfl ?_
  conv => whnf
  all_goals (cases h; exact Res.z rfl rfl rfl)
def law54_RekeyOpens : api_Key → api_Tuple → Int → Int → Int → Option Bool := law54_RekeyOpensF R32_Open law54_awake rekey_Keys_Go rekey_Keys_Key rekey_Keys_Key_nil rekey_Keys_Make rekey_Keys_Open rekey_Keys_Open_nil rekey_Keys_Turn rekey_Keys_Turn_nil rekey_New
end Go.Vm.Code
namespace Go.Vm.Code
open Go Go.Vm
def nextK (k : api_Key) : api_Key := ⟨hashR tak finQ 1 (newV k).s [1], hashR tak finQ 1 (newV k).s [2]⟩
theorem pnext_eq (k : api_Key) : rekey_Next k = some (nextK k) := by
  unfold rekey_Next rekey_NextF
  rw [Hash_R (by decide), Option.bind_some, Hash_R (by decide), Option.bind_some]; rfl
structure KI (r : rekey_Keys) : Prop where
  n : r.some_ = 1 ∨ r.some_ = 2
  t0 : 0 ≤ r.now
  t1 : r.now ≤ 1099511627776
  u0 : 0 ≤ r.until_
  u1 : r.until_ ≤ 1099512676352
theorem kgiven {r : rekey_Keys} (h : KI r) : rekey_Keys_given r = some (true, r) := by
  unfold rekey_Keys_given rekey_Keys_givenF
  rw [decide_eq_true (by have := h.n; omega)]
theorem kkey {r : rekey_Keys} (h : KI r) : rekey_Keys_Key r = some (r.keys.e0, r) := by
  unfold rekey_Keys_Key rekey_Keys_KeyF
  rw [kgiven h, Option.bind_some]; rfl
theorem kmake {r : rekey_Keys} (h : KI r) {t : api_Tuple} {id : Int} (hi : -2 ^ 63 ≤ id ∧ id < 2 ^ 63) (hs : inU t.Src) (hd : inU t.Dst) : rekey_Keys_Make r t id = some (ckI r.keys.e0 t id, r) := by
  unfold rekey_Keys_Make rekey_Keys_MakeF
  rw [kgiven h, Option.bind_some]
  simp only [Bool.not_true, cond_false]
  rw [smake_eq hi hs hd, Option.bind_some]
def turnK (r : rekey_Keys) (n : Int) : Int × rekey_Keys := if 1 ≤ n ∧ n ≤ 1048576 then (if r.some_ = 2 then (11, r) else (0, ⟨⟨nextK r.keys.e0, r.keys.e0⟩, 2, r.now + n, r.now⟩)) else (1, r)
theorem turn_KI {r : rekey_Keys} (h : KI r) (n : Int) : KI (turnK r n).2 := by
  unfold turnK
  split
  · split
    · exact h
    · have := h.t0; have := h.t1
      exact ⟨.inr rfl, h.t0, h.t1, by simp only []; omega, by simp only []; omega⟩
  · exact h
theorem kturn {r : rekey_Keys} (h : KI r) (n : Int) : rekey_Keys_Turn r n = some (turnK r n) := by
  unfold rekey_Keys_Turn rekey_Keys_TurnF turnK
  rw [kgiven h, Option.bind_some]
  simp only [Bool.not_true, cond_false]
  by_cases h1 : n < 1
  · rw [cond_p h1, if_neg (by omega)]
  · rw [cond_n h1]
    by_cases h2 : n > 1048576
    · rw [cond_p h2, if_neg (by omega)]
    · rw [cond_n h2, if_pos (by omega)]
      by_cases h3 : r.some_ = 2
      · rw [show (r.some_ == 2) = true from by simpa using h3, cond_true, if_pos h3]
      · have := h.t0; have := h.t1
        rw [show (r.some_ == 2) = false from by simpa using h3, cond_false, if_neg h3, pnext_eq, Option.bind_some, wI64 (by omega) (by omega)]
def goK (r : rekey_Keys) (now : Int) : Int × rekey_Keys := if r.now ≤ now ∧ now ≤ 1099511627776 then (0, ⟨r.keys, if r.some_ = 2 ∧ r.until_ ≤ now then 1 else r.some_, r.until_, now⟩) else (15, r)
theorem go_KI {r : rekey_Keys} (h : KI r) (n : Int) : KI (goK r n).2 := by
  unfold goK
  split
  · have := h.t0
    refine ⟨?_, by simp only []; omega, by simp only []; omega, h.u0, h.u1⟩
    simp only []
    split
    · exact .inl rfl
    · exact h.n
  · exact h
theorem kgo {r : rekey_Keys} (h : KI r) (n : Int) : rekey_Keys_Go r n = some (goK r n) := by
  unfold rekey_Keys_Go rekey_Keys_GoF goK
  rw [kgiven h, Option.bind_some]
  simp only [Bool.not_true, cond_false]
  by_cases h1 : n < r.now
  · rw [cond_p h1, if_neg (by omega)]
  · rw [cond_n h1]
    by_cases h2 : n > 1099511627776
    · rw [cond_p h2, if_neg (by omega)]
    · rw [cond_n h2, if_pos (by omega)]
      by_cases h3 : r.some_ = 2
      · rw [show (r.some_ == 2) = true from by simpa using h3, cond_true]
        by_cases h4 : r.until_ ≤ n
        · rw [cond_p h4, if_pos ⟨h3, h4⟩]
        · rw [cond_n h4, if_neg (fun c => h4 c.2)]
      · rw [show (r.some_ == 2) = false from by simpa using h3, cond_false, if_neg (fun c => h3 c.1)]
def openK (r : rekey_Keys) (t : api_Tuple) (c : Nat) : Int × Bool × Bool :=
  if (opI r.keys.e0 t c).2 = true then ((opI r.keys.e0 t c).1, false, true) else if r.some_ = 2 ∧ (opI r.keys.e1 t c).2 = true then ((opI r.keys.e1 t c).1, true, true) else (0, false, false)
theorem kopen {r : rekey_Keys} (h : KI r) {t : api_Tuple} {c : Nat} (hc : c < 2 ^ 64) (hs : inU t.Src) (hd : inU t.Dst) : rekey_Keys_Open r t (c : Int) = some ((openK r t c).1, (openK r t c).2.1, (openK r t c).2.2, r) := by
  unfold rekey_Keys_Open rekey_Keys_OpenF openK
  have hn := h.n
  rw [kgiven h, Option.bind_some]
  simp only [Bool.not_true, cond_false]
  rw [oreq_p (by omega), cond_p (by omega), oreq_p (by omega), sopen_eq hc hs hd, Option.bind_some]
  cases h0 : (opI r.keys.e0 t c).2 with
  | true => rfl
  | false =>
    simp only [cond_false, Bool.false_eq_true, ↓reduceIte]
    rcases hn with e | e
    · rw [cond_n (by omega), if_neg (by omega)]
    · rw [cond_p (by omega), oreq_p (by omega), sopen_eq hc hs hd, Option.bind_some]
      cases h1 : (opI r.keys.e1 t c).2 with
      | true => rw [if_pos ⟨e, rfl⟩]; rfl
      | false => rw [if_neg (by simp)]; simp only [cond_false]; rw [cond_n (by omega)]
theorem awake54 : law54_awake = some true := by decide +kernel
theorem newKI (k : api_Key) : KI ⟨⟨k, ⟨0, 0⟩⟩, 1, 0, 0⟩ := ⟨.inl rfl, by simp, by simp, by simp, by simp⟩
theorem rekeyOpens (k : api_Key) (t : api_Tuple) (id n now : Int) (hi : 0 ≤ id ∧ id < 65536) (hn : 0 ≤ n ∧ n < 65536) (hw : 0 ≤ now ∧ now < 65536) (hs : inU t.Src) (hd : inU t.Dst) : law54_RekeyOpens k t id n now = some true := by
  unfold law54_RekeyOpens law54_RekeyOpensF
  rw [awake54]
  obtain ⟨a, ea, ha⟩ : ∃ a, (if (wI .i64 id) > 1 then wI .i64 id else 1) = a ∧ (1 ≤ a ∧ a ≤ 65535) := ⟨_, rfl, by rw [wI64 (by omega) (by omega)]; split <;> omega⟩
  have en : wI .i64 (1 + ((wI .i64 n).tmod 1000)) = 1 + n % 1000 := by
    rw [wI64 (n := n) (by omega) (by omega), Int.tmod_eq_emod_of_nonneg hn.1, wI64 (by omega) (by omega)]
  have ew : (wI .i64 now).tmod 2001 = now % 2001 := by
    rw [wI64 (n := now) (by omega) (by omega), Int.tmod_eq_emod_of_nonneg hw.1]
  simp only [ea, en, ew]
  obtain ⟨N, hN⟩ : ∃ N, 1 + n % 1000 = N := ⟨_, rfl⟩
  obtain ⟨w, hW⟩ : ∃ w, now % 2001 = w := ⟨_, rfl⟩
  rw [hN, hW]
  have h0 := newKI k
  have rc := ckI_rng k t a
  have oa := opI_ck (k := k) (t := t) ha
  obtain ⟨c, hc⟩ := Int.eq_ofNat_of_zero_le rc.1
  rw [hc, Int.toNat_natCast] at oa
  have e1 : openK ⟨⟨k, ⟨0, 0⟩⟩, 1, 0, 0⟩ t c = (a, false, true) := by
    unfold openK; simp only [oa]; rfl
  have h1 := turn_KI h0 N
  have e2 : turnK ⟨⟨k, ⟨0, 0⟩⟩, 1, 0, 0⟩ N = (0, ⟨⟨nextK k, k⟩, 2, 0 + N, 0⟩) := by
    unfold turnK; rw [if_pos (by omega), if_neg (by simp)]
  rw [e2] at h1
  have e3 : turnK ⟨⟨nextK k, k⟩, 2, 0 + N, 0⟩ 1 = (11, ⟨⟨nextK k, k⟩, 2, 0 + N, 0⟩) := by
    unfold turnK; rw [if_pos (by decide), if_pos rfl]
  obtain ⟨r2, e4, h2, k2, s2⟩ : ∃ r2, goK ⟨⟨nextK k, k⟩, 2, 0 + N, 0⟩ w = (0, r2) ∧ KI r2 ∧ r2.keys = ⟨nextK k, k⟩ ∧ r2.some_ = if N ≤ w then 1 else 2 := by
    have h2 := go_KI h1 w
    unfold goK at h2 ⊢
    rw [if_pos (by simp only []; omega)] at h2 ⊢
    refine ⟨_, rfl, h2, rfl, ?_⟩
    simp only [Int.zero_add, true_and]
  rw [show rekey_New k = some ⟨⟨k, ⟨0, 0⟩⟩, 1, 0, 0⟩ from rfl, Option.bind_some, kmake h0 ⟨by omega, by omega⟩ hs hd, Option.bind_some]
  simp only [hc]
  rw [kopen h0 (by omega) hs hd, Option.bind_some, e1]
  simp only [Bool.not_true, cond_false, bne_self_eq_false]
  rw [kturn h0, Option.bind_some, e2]
  simp only [bne_self_eq_false, cond_false]
  rw [kturn h1, Option.bind_some, e3]
  simp only [bne_self_eq_false, cond_false]
  rw [kgo h1, Option.bind_some, e4]
  simp only [bne_self_eq_false, cond_false]
  rw [kkey h2, Option.bind_some, ropen_eq (by omega) hs hd, Option.bind_some, kopen h2 (by omega) hs hd, Option.bind_some]
  unfold openK
  rw [k2, s2]
  simp only []
  cases hb : (opI (nextK k) t c).2 with
  | true => simp
  | false =>
    simp only [cond_false, Bool.false_eq_true, ↓reduceIte, oa]
    by_cases hlt : w < N
    · rw [cond_p hlt, if_neg (show ¬ N ≤ w by omega)]
      simp
    · rw [cond_n hlt, if_pos (show N ≤ w by omega)]
      simp
end Go.Vm.Code
