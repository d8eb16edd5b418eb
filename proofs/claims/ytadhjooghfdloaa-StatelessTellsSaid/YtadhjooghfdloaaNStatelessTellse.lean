import Derived.Test.YtadhjooghfdloaaNStatelessTellsd
namespace Go.Vm.Code
open Go Go.Vm
def remG (g : registry_Registry) (k : Nat) : registry_Registry := ⟨g.rule, g.rows.eraseIdx k, g.last, g.version + 1⟩
theorem rem_RI {N : Int} {g : registry_Registry} (h : RI N g) (k : Nat) : RI (N + 1) (remG g k) := by
  have hs : ((g.rows.eraseIdx k).map rid).Sublist (g.rows.map rid) := (List.eraseIdx_sublist _ _).map _
  have v0 := h.ver0; have v1 := h.ver1; have hl := h.len
  refine { rule := h.rule, len := ?_, last0 := h.last0, last1 := h.last1, ver0 := by show 0 ≤ g.version + 1; omega, ver1 := by show g.version + 1 ≤ N + 1; omega, ids := fun i hi => h.ids i (hs.subset hi), up := h.up.sublist hs }
  have := (List.eraseIdx_sublist g.rows k).length_le
  show (g.rows.eraseIdx k).length ≤ 64
  omega
theorem rem_inner {N : Int} {g : registry_Registry} (h : RI N g) (hN : N < 2 ^ 40) {k : Nat} {r : registry_row} (hk : g.rows[k]? = some r) :
    iter (fun st => registry_Registry_Remove_s1 g r.Backend.ID st.1 st.2.1 st.2.2) FUEL ((k : Int), wI .i64 ((k : Int) + 1), g.rows) = some (0, remG g k) := by
  have hl := (List.getElem?_eq_some_iff.1 hk).1
  have hlen := h.len; have v0 := h.ver0; have v1 := h.ver1
  rw [wI64 (by omega) (by omega)]
  refine iter_eq (fun _ => (0, remG g k)) (fun (s : Int × Int × List registry_row) => ∃ j : Nat, k < j ∧ j ≤ g.rows.length ∧ s.1 = (j : Int) - 1 ∧ s.2.1 = j ∧ s.2.2.length = g.rows.length ∧ (∀ m, m < j - 1 → s.2.2[m]? = (g.rows.eraseIdx k)[m]?) ∧ ∀ m, j ≤ m → s.2.2[m]? = g.rows[m]?)
    (fun s => g.rows.length - s.2.1.toNat) ?_ FUEL ((k : Int), (k : Int) + 1, g.rows) ⟨k + 1, by omega, by omega, by simp only []; omega, by simp, rfl, fun m hm => ?_, fun m hm => rfl⟩ (by rw [FUEL_eq]; simp only []; omega)
  · rintro ⟨i, xj, s⟩ ⟨j, h1, h2, h3, h4, h5, h6, h7⟩
    simp only at h3 h4 h5 h6 h7
    subst h3; subst h4
    dsimp only
    unfold registry_Registry_Remove_s1
    rcases Nat.lt_or_ge j g.rows.length with hlt | hge
    · right
      have hj : s[j]? = some g.rows[j] := by rw [h7 j (Nat.le_refl _), List.getElem?_eq_getElem hlt]
      have hne : ((g.rows[j]).Backend.ID == r.Backend.ID) = false := by
        rw [beq_eq_false_iff_ne]
        have := h.lt hk (List.getElem?_eq_getElem hlt) h1
        omega
      rw [cond_p (by omega), oreq_p ⟨by omega, by omega⟩, Int.toNat_natCast, hj, Option.bind_some, hne]
      simp only [Bool.not_false, cond_true]
      rw [oreq_p ⟨by omega, by omega⟩, oreq_p (by omega), wI64 (by omega) (by omega), wI64 (by omega) (by omega)]
      refine ⟨_, rfl, ⟨j + 1, by omega, by omega, by simp only []; omega, by simp only []; omega, by simpa using h5, fun m hm => ?_, fun m hm => ?_⟩, by simp only []; omega, by trivial⟩
      · simp only []
        have et : ((j : Int) - 1).toNat = j - 1 := by omega
        rw [et, List.getElem?_set]
        split
        · rename_i e; subst e
          rw [if_pos (by omega), List.getElem?_eraseIdx, if_neg (by omega), show j - 1 + 1 = j by omega, List.getElem?_eq_getElem hlt]
        · exact h6 m (by omega)
      · simp only []
        rw [List.getElem?_set, if_neg (by omega)]
        exact h7 m (by omega)
    · left
      have e : j = g.rows.length := by omega
      have et : ((j : Int) - 1).toNat = j - 1 := by omega
      rw [cond_n (by omega), oreq_p ⟨by omega, by omega⟩, et, oreq_p (by omega), oreq_p ⟨by omega, by omega⟩, wI64 (by omega) (by omega)]
      have : s.take (j - 1) = g.rows.eraseIdx k := by
        apply List.ext_getElem?
        intro m
        rw [List.getElem?_take]
        split
        · rename_i hm; exact h6 m hm
        · rw [List.getElem?_eq_none]
          rw [List.length_eraseIdx, if_pos hl]; omega
      rw [this]; rfl
  · simp only [Nat.add_sub_cancel] at hm
    rw [List.getElem?_eraseIdx, if_pos hm]
theorem remove_yes {N : Int} {g : registry_Registry} (h : RI N g) (hN : N < 2 ^ 40) {k : Nat} {r : registry_row} (hk : g.rows[k]? = some r) : registry_Registry_Remove g r.Backend.ID = some (0, remG g k) := by
  unfold registry_Registry_Remove registry_Registry_RemoveF
  have hl := (List.getElem?_eq_some_iff.1 hk).1
  have hlen := h.len
  rw [given_eq h, Option.bind_some, find_yes h hk, Option.bind_some]
  simp only [Bool.not_true, cond_false]
  rw [oreq_p ⟨by omega, by omega⟩]
  refine iter_eq (fun _ => (0, remG g k)) (fun (s : Int) => 0 ≤ s ∧ s ≤ k) (fun s => ((k : Int) - s).toNat) ?_ FUEL 0 ⟨by omega, by omega⟩ (by rw [FUEL_eq]; omega)
  rintro s ⟨h0, h1⟩
  obtain ⟨i, rfl⟩ := Int.eq_ofNat_of_zero_le h0
  unfold registry_Registry_Remove_s2
  have hi : i < g.rows.length := by omega
  rw [cond_p (by omega), oreq_p ⟨by omega, by omega⟩, Int.toNat_natCast, List.getElem?_eq_getElem hi, Option.bind_some]
  rcases Nat.lt_or_ge i k with hlt | hge
  · right
    have hne : ((g.rows[i]).Backend.ID == r.Backend.ID) = false := by
      rw [beq_eq_false_iff_ne]
      have := h.lt (List.getElem?_eq_getElem hi) hk hlt
      omega
    rw [hne, cond_false, wI64 (by omega) (by omega)]
    exact ⟨_, rfl, ⟨by omega, by omega⟩, by omega, by trivial⟩
  · left
    have e : i = k := by omega
    subst e
    have er : g.rows[i] = r := by rw [List.getElem?_eq_getElem hi] at hk; exact Option.some.inj hk
    rw [er, show (r.Backend.ID == r.Backend.ID) = true from by simp, cond_true, show ((i : Int) == -1) = false from by rw [beq_eq_false_iff_ne]; omega, cond_false, rem_inner h hN hk, Option.bind_some]
theorem remove_no {N : Int} {g : registry_Registry} (h : RI N g) {id : Int} (hn : ∀ (k : Nat) r, g.rows[k]? = some r → r.Backend.ID ≠ id) : registry_Registry_Remove g id = some (13, g) := by
  unfold registry_Registry_Remove registry_Registry_RemoveF
  obtain ⟨i, hi⟩ := find_no h hn
  rw [given_eq h, Option.bind_some, hi, Option.bind_some]; rfl
end Go.Vm.Code
namespace Go.Vm.Code
open Go Go.Vm Go.Proofs
set_option maxRecDepth 100000
set_option maxHeartbeats 4000000
set_option linter.unusedVariables false
def R23_Registry_at_s1 (ga0 : R23_Registry) (ida1 : Int) (i : Int) : Option (Sum Int Int) :=
  cond (decide (i < (ga0.L.length : Int)))
    (
    oreq (decide ((0 : Int) ≤ i ∧ i < (ga0.L.length : Int))) <|
    (ga0.L[i.toNat]?).bind fun (e : R23_Row) =>
    cond (e.ID == ida1)
      (
      some (.inr (i)))
      (
      some (.inl (wI .i64 (i + 1)))))
    (
    some (.inr ((-1))))
def R23_Registry_atF (ga0 : R23_Registry) (ida1 : Int) : Option Int :=
  iter (fun st => R23_Registry_at_s1 ga0 ida1 st) FUEL 0
def rx73 (x : Int) : SRes := ⟨.int .i64 x, [], [none, none]⟩
def r73 (g : R23_Registry → Int → Option Int) : Dec := dTr 2 (udR23_Registry 0) fun (y0 : R23_Registry) => dV (asI .i64) fun (y1 : Int) => dEnd (ofG (g y0 y1) rx73)
theorem r73_c {g : R23_Registry → Int → Option Int} {y0 : R23_Registry} {y1 : Int} {x : Int} (hx : g y0 y1 = some x) : r73 g [.pointer (some ⟨0, 0, none⟩), .int .i64 y1] [some [.int .i64 y0.Rule.Rise, .int .i64 y0.Rule.Fall, .slice (some ⟨1, 0, none⟩) y0.L.length 8, .int .i64 y0.Last, .int .i64 y0.Version], some (vT cR23_Row y0.L)] = some (rx73 x) := (dTr_eq rfl rfl (udR23_Registry_c 0 _)).trans ((dV_eq (asI_c _)).trans (ofG_eq hx))
def s73 (g : R23_Registry → Int → Option Int) : Summ := ⟨[.tr [⟨none, 0, 0, 0, none⟩, ⟨some 0, 2, 0, 0, some 8⟩], .v], r73 g⟩
theorem r73_eq {g : R23_Registry → Int → Option Int} {y0 : R23_Registry} {y1 : Int} {x : Int} (hx : g y0 y1 = some x) : (s73 g).run [.pointer (some ⟨0, 0, none⟩), .int .i64 y1] [some [.int .i64 y0.Rule.Rise, .int .i64 y0.Rule.Fall, .slice (some ⟨1, 0, none⟩) y0.L.length 8, .int .i64 y0.Last, .int .i64 y0.Version], some (vT cR23_Row y0.L)] = some (rx73 x) := r73_c hx
abbrev sums73 : List (Nat × Summ) := []
def head73_1 (ga0 : R23_Registry) (ida1 : Int) (i : Int) : VM :=
  ⟨⟨73, 26, [(0, .pointer (some ⟨0, 0, none⟩)), (1, .int .i64 ida1), (5, .int .i64 i)], [.code k73_13, .inLoop k73_13, .inBlock 0, .code k73_18], [], false, none⟩, [], [(0, .row false [.int .i64 ga0.Rule.Rise, .int .i64 ga0.Rule.Fall, .slice (some ⟨1, 0, none⟩) ga0.L.length 8, .int .i64 ga0.Last, .int .i64 ga0.Version]), (1, .row false (vT cR23_Row ga0.L))], 2⟩
theorem loop73_1 (hS : SumsOK Try.prog (aget (sums73))) (ga0 : R23_Registry) (ida1 : Int) (res : Int) : ∀ fuel (st : Int) (o : Int), iter (fun st => R23_Registry_at_s1 ga0 ida1 st) fuel st = some o → (o = res) →
    Leads Try.prog 73 2 (head73_1 ga0 ida1 st) (fun v H _ => Res 2 (rx73 res) v H) := by
  intro fuel st o h hc
  refine iter_leads (head := fun st => head73_1 ga0 ida1 st) (C := fun o => (o = res)) ?_ fuel st o h hc
  clear h hc o st fuel
  intro i o h hc
  replace h : R23_Registry_at_s1 ga0 ida1 i = some o := h
  show Leads Try.prog 73 2 (head73_1 ga0 ida1 i) (fun v H _ => Res 2 (rx73 res) v H)
  unfold R23_Registry_at_s1 at h
  refine ev_ok tab_ok hS true 3000 ?_
  conv => whnf
  refine br.h2 h ?_ ?_ ?_
  · rfl
  · clear h; intro hb h; conv => whnf
    all_goals (cases h; cases hc)
    all_goals exact Res.of [] rfl nw_0 (by decide) js_0 (wr_n (wr_n wr_0))
  clear h; intro hb h; conv => whnf
  replace h := oreq.elim h; obtain ⟨hb, h⟩ := h
  first | (refine req.intro hb ?_; conv => whnf) | skip
  replace h := obind.elim h; obtain ⟨e, hy, h⟩ := h
  refine rd.T (j := 0) cR23_Row_len hy (by first | omega | exact Nat.zero_add _ | exact congrArg (· + _) (Nat.zero_add _)) (by decide) rfl ?_
  conv => whnf
  refine br.h h ?_ ?_ ?_
  · rfl
  · clear h; intro hb h; conv => whnf
    all_goals (cases h; cases hc)
    all_goals exact Res.of [] rfl nw_0 (by decide) js_0 (wr_n (wr_n wr_0))
  clear h; intro hb h; conv => whnf
  cases h; simp only [Sum.elim_inl, head73_1] at hc
  exact lrA1 hc [(0, 0), (1, 1)] rfl
theorem leads73 (hS : SumsOK Try.prog (aget (sums73))) (ga0 : R23_Registry) (ida1 : Int) (res : Int) (h : R23_Registry_atF ga0 ida1 = some res) :
    Leads Try.prog 73 2 ⟨⟨73, 26, [(0, .pointer (some ⟨0, 0, none⟩)), (1, .int .i64 ida1)], [.code k73_20], [], false, none⟩, [], [(0, .row false [.int .i64 ga0.Rule.Rise, .int .i64 ga0.Rule.Fall, .slice (some ⟨1, 0, none⟩) ga0.L.length 8, .int .i64 ga0.Last, .int .i64 ga0.Version]), (1, .row false (vT cR23_Row ga0.L))], 2⟩ (fun v H _ => Res 2 (rx73 res) v H) := by
  unfold R23_Registry_atF at h
  refine ev_ok tab_ok hS true 3000 ?_
  conv => whnf
  have hl := loop73_1 hS _ _ res _ _ _ h rfl; simp only [head73_1] at hl
  exact lrA1 hl [(0, 0), (1, 1)] rfl
theorem ok73 (hS : SumsOK Try.prog (aget (sums73))) : SumOK Try.prog 73 (s73 (R23_Registry_atF)) := by
  refine SumOK.of_leads tab_ok (fun ar os r ha hr => ?_) ⟨Try.f73, rfl, by decide, rfl⟩
  replace hr : r73 (R23_Registry_atF) ar (conts os) = some r := hr
  unfold r73 at hr
  generalize hc : conts os = C at hr
  have hq := dTr.elim hr; clear hr; obtain ⟨v0, l1, c0, C, y0, rfl, rfl, e0, hr⟩ := hq; obtain ⟨rfl, rfl⟩ := udR23_Registry_eq e0; simp only [List.nil_append, List.cons_append] at hc
  replace hr := dV.elim hr; obtain ⟨v1, l2, y1, rfl, e1, hr⟩ := hr; obtain rfl := asI_eq _ _ _ e1
  replace hr := dFin hr; obtain ⟨rfl, rfl, x, h, rfl⟩ := hr
  obtain ⟨os, rfl, ha, hc⟩ := kinds_some ha hc
  obtain ⟨os, rfl, ha, hc⟩ := kinds_some ha hc
  obtain rfl := kinds_nil hc
  exact ⟨_, rfl, leads73 hS _ _ x h⟩
def R23_Registry_at : R23_Registry → Int → Option Int := R23_Registry_atF
theorem lift73 : SumOK Try.prog 73 (s73 R23_Registry_at) := ok73 (SumsOK.of_tab trivial)
def R23_backendF (ra0 : R23_Row) : Option api_Backend :=
  cond (ra0.Health.Up)
    (
    cond (ra0.Drain)
      (
      some (api_Backend.mk ra0.ID ra0.Weight 3 ra0.Addr))
      (
      some (api_Backend.mk ra0.ID ra0.Weight 1 ra0.Addr)))
    (
    cond (ra0.Drain)
      (
      some (api_Backend.mk ra0.ID ra0.Weight 3 ra0.Addr))
      (
      some (api_Backend.mk ra0.ID ra0.Weight 2 ra0.Addr)))
def rx74 (x : api_Backend) : SRes := ⟨.agg ⟨[.int .i64 x.ID, .int .i64 x.Weight, .int .i64 x.State, .bool x.Addr.V6, .int .u64 x.Addr.Hi, .int .u64 x.Addr.Lo]⟩, [], []⟩
def r74 (g : R23_Row → Option api_Backend) : Dec := dV uvR23_Row fun (y0 : R23_Row) => dEnd (ofG (g y0) rx74)
theorem r74_c {g : R23_Row → Option api_Backend} {y0 : R23_Row} {x : api_Backend} (hx : g y0 = some x) : r74 g [.agg ⟨[.int .i64 y0.ID, .int .i64 y0.Weight, .bool y0.Addr.V6, .int .u64 y0.Addr.Hi, .int .u64 y0.Addr.Lo, .bool y0.Drain, .bool y0.Health.Up, .int .i64 y0.Health.Run]⟩] [] = some (rx74 x) := (dV_eq (uvR23_Row_c _)).trans (ofG_eq hx)
def s74 (g : R23_Row → Option api_Backend) : Summ := ⟨[.v], r74 g⟩
theorem r74_eq {g : R23_Row → Option api_Backend} {y0 : R23_Row} {x : api_Backend} (hx : g y0 = some x) : (s74 g).run [.agg ⟨[.int .i64 y0.ID, .int .i64 y0.Weight, .bool y0.Addr.V6, .int .u64 y0.Addr.Hi, .int .u64 y0.Addr.Lo, .bool y0.Drain, .bool y0.Health.Up, .int .i64 y0.Health.Run]⟩] [] = some (rx74 x) := r74_c hx
abbrev sums74 : List (Nat × Summ) := []
theorem leads74 (hS : SumsOK Try.prog (aget (sums74))) (ra0 : R23_Row) (res : api_Backend) (h : R23_backendF ra0 = some res) :
    Leads Try.prog 74 0 ⟨⟨74, 19, [(0, .agg ⟨[.int .i64 ra0.ID, .int .i64 ra0.Weight, .bool ra0.Addr.V6, .int .u64 ra0.Addr.Hi, .int .u64 ra0.Addr.Lo, .bool ra0.Drain, .bool ra0.Health.Up, .int .i64 ra0.Health.Run]⟩)], [.code k74_15], [], false, none⟩, [], [], 0⟩ (fun v H _ => Res 0 (rx74 res) v H) := by
  unfold R23_backendF at h
  refine ev_ok tab_ok hS true 3000 ?_
  conv => whnf
  refine br.h h ?_ ?_ ?_
  · rfl
  · clear h; intro hb h; conv => whnf
    refine br.h h ?_ ?_ ?_
    · rfl
    · clear h; intro hb h; conv => whnf
      all_goals (cases h; exact Res.z rfl rfl rfl)
    clear h; intro hb h; conv => whnf
    all_goals (cases h; exact Res.z rfl rfl rfl)
  clear h; intro hb h; conv => whnf
  refine br.h h ?_ ?_ ?_
  · rfl
  · clear h; intro hb h; conv => whnf
    all_goals (cases h; exact Res.z rfl rfl rfl)
  clear h; intro hb h; conv => whnf
  all_goals (cases h; exact Res.z rfl rfl rfl)
theorem ok74 (hS : SumsOK Try.prog (aget (sums74))) : SumOK Try.prog 74 (s74 (R23_backendF)) := by
  refine SumOK.of_leads tab_ok (fun ar os r ha hr => ?_) ⟨Try.f74, rfl, by decide, rfl⟩
  replace hr : r74 (R23_backendF) ar (conts os) = some r := hr
  unfold r74 at hr
  generalize hc : conts os = C at hr
  replace hr := dV.elim hr; obtain ⟨v0, l1, y0, rfl, e0, hr⟩ := hr; obtain rfl := uvR23_Row_eq _ _ e0
  replace hr := dFin hr; obtain ⟨rfl, rfl, x, h, rfl⟩ := hr
  obtain rfl := kinds_nil hc
  exact ⟨_, rfl, leads74 hS _ x h⟩
def R23_backend : R23_Row → Option api_Backend := R23_backendF
theorem lift74 : SumOK Try.prog 74 (s74 R23_backend) := ok74 (SumsOK.of_tab trivial)
def R23_Registry_GetF (R23_Registry_at : R23_Registry → Int → Option Int) (R23_backend : R23_Row → Option api_Backend) (ga0 : R23_Registry) (ida1 : Int) : Option (api_Backend × Bool) :=
  (R23_Registry_at ga0 ida1).bind fun a =>
  cond (decide (a ≥ 0))
    (
    oreq (decide ((0 : Int) ≤ a ∧ a < (ga0.L.length : Int))) <|
    (ga0.L[a.toNat]?).bind fun (e : R23_Row) =>
    (R23_backend e).bind fun b =>
    some ((b, true)))
    (
    cond (decide (ida1 ≥ 1))
      (
      cond (decide (ida1 ≤ ga0.Last))
        (
        some ((api_Backend.mk ida1 0 4 (api_Addr.mk false 0 0), true)))
        (
        some ((api_Backend.mk 0 0 0 (api_Addr.mk false 0 0), false))))
      (
      some ((api_Backend.mk 0 0 0 (api_Addr.mk false 0 0), false))))
def rx19 (x : api_Backend × Bool) : SRes := ⟨.tuple ⟨[.agg ⟨[.int .i64 x.1.ID, .int .i64 x.1.Weight, .int .i64 x.1.State, .bool x.1.Addr.V6, .int .u64 x.1.Addr.Hi, .int .u64 x.1.Addr.Lo]⟩, .bool x.2]⟩, [], [none, none]⟩
def r19 (g : R23_Registry → Int → Option (api_Backend × Bool)) : Dec := dTr 2 (udR23_Registry 0) fun (y0 : R23_Registry) => dV (asI .i64) fun (y1 : Int) => dEnd (ofG (g y0 y1) rx19)
theorem r19_c {g : R23_Registry → Int → Option (api_Backend × Bool)} {y0 : R23_Registry} {y1 : Int} {x : api_Backend × Bool} (hx : g y0 y1 = some x) : r19 g [.pointer (some ⟨0, 0, none⟩), .int .i64 y1] [some [.int .i64 y0.Rule.Rise, .int .i64 y0.Rule.Fall, .slice (some ⟨1, 0, none⟩) y0.L.length 8, .int .i64 y0.Last, .int .i64 y0.Version], some (vT cR23_Row y0.L)] = some (rx19 x) := (dTr_eq rfl rfl (udR23_Registry_c 0 _)).trans ((dV_eq (asI_c _)).trans (ofG_eq hx))
def s19 (g : R23_Registry → Int → Option (api_Backend × Bool)) : Summ := ⟨[.tr [⟨none, 0, 0, 0, none⟩, ⟨some 0, 2, 0, 0, some 8⟩], .v], r19 g⟩
theorem r19_eq {g : R23_Registry → Int → Option (api_Backend × Bool)} {y0 : R23_Registry} {y1 : Int} {x : api_Backend × Bool} (hx : g y0 y1 = some x) : (s19 g).run [.pointer (some ⟨0, 0, none⟩), .int .i64 y1] [some [.int .i64 y0.Rule.Rise, .int .i64 y0.Rule.Fall, .slice (some ⟨1, 0, none⟩) y0.L.length 8, .int .i64 y0.Last, .int .i64 y0.Version], some (vT cR23_Row y0.L)] = some (rx19 x) := r19_c hx
abbrev sums19 (R23_Registry_at : R23_Registry → Int → Option Int) (R23_backend : R23_Row → Option api_Backend) : List (Nat × Summ) := [(73, s73 R23_Registry_at), (74, s74 R23_backend)]
theorem leads19 (R23_Registry_at : R23_Registry → Int → Option Int) (R23_backend : R23_Row → Option api_Backend) (hS : SumsOK Try.prog (aget (sums19 R23_Registry_at R23_backend))) (ga0 : R23_Registry) (ida1 : Int) (res : api_Backend × Bool) (h : R23_Registry_GetF R23_Registry_at R23_backend ga0 ida1 = some res) :
    Leads Try.prog 19 2 ⟨⟨19, 33, [(0, .pointer (some ⟨0, 0, none⟩)), (1, .int .i64 ida1)], [.code k19_17], [], false, none⟩, [], [(0, .row false [.int .i64 ga0.Rule.Rise, .int .i64 ga0.Rule.Fall, .slice (some ⟨1, 0, none⟩) ga0.L.length 8, .int .i64 ga0.Last, .int .i64 ga0.Version]), (1, .row false (vT cR23_Row ga0.L))], 2⟩ (fun v H _ => Res 2 (rx19 res) v H) := by
  unfold R23_Registry_GetF at h
  refine ev_ok tab_ok hS true 3000 ?_
  conv => whnf
  replace h := obind.elim h; obtain ⟨a, hy, h⟩ := h
  refine sumK.introF [] (sumRun_of (aqs := [.pointer (some ⟨0, 0, none⟩), .int .i64 ida1]) (ws := [.blk 0 false, .blk 1 false]) (n := 0) (m := 0) (t' := 3) (ra_cons (ra_tr rfl rfl (vp_at rfl rfl rfl rfl (vp_at rfl rfl (rn_T cR23_Row_flat) rfl vp_nil)) rfl) rfl (ra_cons rfl rfl ra_nil)) rfl (by rfl) (r73_eq hy) rfl rfl rfl rfl (wb_skip rfl (wb_skip rfl wb_nil)) an_nil rfl) ?_
  conv => whnf
  refine br.h h ?_ ?_ ?_
  · rfl
  · clear h; intro hb h; conv => whnf
    replace h := oreq.elim h; obtain ⟨hb, h⟩ := h
    first | (refine req.intro hb ?_; conv => whnf) | skip
    replace h := obind.elim h; obtain ⟨e, hy, h⟩ := h
    refine ld_T cR23_Row_len hy (by first | omega | exact Nat.zero_add _ | exact congrArg (· + _) (Nat.zero_add _)) rfl ?_
    conv => whnf
    replace h := obind.elim h; obtain ⟨b, hy, h⟩ := h
    refine sumK.q rfl rfl (r74_eq hy) rfl rfl rfl ?_
    conv => whnf
    all_goals (cases h)
    all_goals exact Res.of [] rfl nw_0 (by decide) js_0 (wr_n (wr_n wr_0))
  clear h; intro hb h; conv => whnf
  refine br.h2 h ?_ ?_ ?_
  · rfl
  · clear h; intro hb h; conv => whnf
    all_goals (cases h)
    all_goals exact Res.of [] rfl nw_0 (by decide) js_0 (wr_n (wr_n wr_0))
  clear h; intro hb h; conv => whnf
  refine br.h h ?_ ?_ ?_
  · rfl
  · clear h; intro hb h; conv => whnf
    all_goals (cases h)
    all_goals exact Res.of [] rfl nw_0 (by decide) js_0 (wr_n (wr_n wr_0))
  clear h; intro hb h; conv => whnf
  all_goals (cases h)
  all_goals exact Res.of [] rfl nw_0 (by decide) js_0 (wr_n (wr_n wr_0))
theorem ok19 (R23_Registry_at : R23_Registry → Int → Option Int) (R23_backend : R23_Row → Option api_Backend) (hS : SumsOK Try.prog (aget (sums19 R23_Registry_at R23_backend))) : SumOK Try.prog 19 (s19 (R23_Registry_GetF R23_Registry_at R23_backend)) := by
  refine SumOK.of_leads tab_ok (fun ar os r ha hr => ?_) ⟨Try.f19, rfl, by decide, rfl⟩
  replace hr : r19 (R23_Registry_GetF R23_Registry_at R23_backend) ar (conts os) = some r := hr
  unfold r19 at hr
  generalize hc : conts os = C at hr
  have hq := dTr.elim hr; clear hr; obtain ⟨v0, l1, c0, C, y0, rfl, rfl, e0, hr⟩ := hq; obtain ⟨rfl, rfl⟩ := udR23_Registry_eq e0; simp only [List.nil_append, List.cons_append] at hc
  replace hr := dV.elim hr; obtain ⟨v1, l2, y1, rfl, e1, hr⟩ := hr; obtain rfl := asI_eq _ _ _ e1
  replace hr := dFin hr; obtain ⟨rfl, rfl, x, h, rfl⟩ := hr
  obtain ⟨os, rfl, ha, hc⟩ := kinds_some ha hc
  obtain ⟨os, rfl, ha, hc⟩ := kinds_some ha hc
  obtain rfl := kinds_nil hc
  exact ⟨_, rfl, leads19 R23_Registry_at R23_backend hS _ _ x h⟩
def R23_Registry_Get : R23_Registry → Int → Option (api_Backend × Bool) := R23_Registry_GetF R23_Registry_at R23_backend
theorem lift19 : SumOK Try.prog 19 (s19 R23_Registry_Get) := ok19 R23_Registry_at R23_backend (SumsOK.of_tab ⟨lift73, lift74, trivial⟩)
def R04_RightF (a : api_Addr) : Option Bool :=
  cond (a.V6)
    (
    some (true))
    (
    cond (a.Hi == 0)
      (
      some (decide (a.Lo < 4294967296)))
      (
      some (false)))
def rx115 (x : Bool) : SRes := ⟨.bool x, [], []⟩
def r115 (g : api_Addr → Option Bool) : Dec := dV uvapi_Addr fun (y0 : api_Addr) => dEnd (ofG (g y0) rx115)
theorem r115_c {g : api_Addr → Option Bool} {y0 : api_Addr} {x : Bool} (hx : g y0 = some x) : r115 g [.agg ⟨[.bool y0.V6, .int .u64 y0.Hi, .int .u64 y0.Lo]⟩] [] = some (rx115 x) := (dV_eq (uvapi_Addr_c _)).trans (ofG_eq hx)
def s115 (g : api_Addr → Option Bool) : Summ := ⟨[.v], r115 g⟩
theorem r115_eq {g : api_Addr → Option Bool} {y0 : api_Addr} {x : Bool} (hx : g y0 = some x) : (s115 g).run [.agg ⟨[.bool y0.V6, .int .u64 y0.Hi, .int .u64 y0.Lo]⟩] [] = some (rx115 x) := r115_c hx
abbrev sums115 : List (Nat × Summ) := []
theorem leads115 (hS : SumsOK Try.prog (aget (sums115))) (a : api_Addr) (res : Bool) (h : R04_RightF a = some res) :
    Leads Try.prog 115 0 ⟨⟨115, 15, [(0, .agg ⟨[.bool a.V6, .int .u64 a.Hi, .int .u64 a.Lo]⟩)], [.code k115_3], [], false, none⟩, [], [], 0⟩ (fun v H _ => Res 0 (rx115 res) v H) := by
  unfold R04_RightF at h
  refine ev_ok tab_ok hS true 3000 ?_
  conv => whnf
  refine br.h h ?_ ?_ ?_
  · rfl
  · clear h; intro hb h; conv => whnf
    all_goals (cases h; exact Res.z rfl rfl rfl)
  clear h; intro hb h; conv => whnf
  refine br.h h ?_ ?_ ?_
  · rfl
  · clear h; intro hb h; conv => whnf
    all_goals (cases h; exact Res.z rfl rfl rfl)
  clear h; intro hb h; conv => whnf
  all_goals (cases h; exact Res.z rfl rfl rfl)
theorem ok115 (hS : SumsOK Try.prog (aget (sums115))) : SumOK Try.prog 115 (s115 (R04_RightF)) := by
  refine SumOK.of_leads tab_ok (fun ar os r ha hr => ?_) ⟨Try.f115, rfl, by decide, rfl⟩
  replace hr : r115 (R04_RightF) ar (conts os) = some r := hr
  unfold r115 at hr
  generalize hc : conts os = C at hr
  replace hr := dV.elim hr; obtain ⟨v0, l1, y0, rfl, e0, hr⟩ := hr; obtain rfl := uvapi_Addr_eq _ _ e0
  replace hr := dFin hr; obtain ⟨rfl, rfl, x, h, rfl⟩ := hr
  obtain rfl := kinds_nil hc
  exact ⟨_, rfl, leads115 hS _ x h⟩
def R04_Right : api_Addr → Option Bool := R04_RightF
theorem lift115 : SumOK Try.prog 115 (s115 R04_Right) := ok115 (SumsOK.of_tab trivial)
def R21_RightF (ra0 : health_Rule) : Option Bool :=
  cond (decide (ra0.Rise ≥ 1))
    (
    cond (decide (ra0.Rise ≤ 100))
      (
      cond (decide (ra0.Fall ≥ 1))
        (
        some (decide (ra0.Fall ≤ 100)))
        (
        some (false)))
      (
      some (false)))
    (
    some (false))
def rx25 (x : Bool) : SRes := ⟨.bool x, [], []⟩
def r25 (g : health_Rule → Option Bool) : Dec := dV uvhealth_Rule fun (y0 : health_Rule) => dEnd (ofG (g y0) rx25)
theorem r25_c {g : health_Rule → Option Bool} {y0 : health_Rule} {x : Bool} (hx : g y0 = some x) : r25 g [.agg ⟨[.int .i64 y0.Rise, .int .i64 y0.Fall]⟩] [] = some (rx25 x) := (dV_eq (uvhealth_Rule_c _)).trans (ofG_eq hx)
def s25 (g : health_Rule → Option Bool) : Summ := ⟨[.v], r25 g⟩
theorem r25_eq {g : health_Rule → Option Bool} {y0 : health_Rule} {x : Bool} (hx : g y0 = some x) : (s25 g).run [.agg ⟨[.int .i64 y0.Rise, .int .i64 y0.Fall]⟩] [] = some (rx25 x) := r25_c hx
abbrev sums25 : List (Nat × Summ) := []
theorem leads25 (hS : SumsOK Try.prog (aget (sums25))) (ra0 : health_Rule) (res : Bool) (h : R21_RightF ra0 = some res) :
    Leads Try.prog 25 0 ⟨⟨25, 21, [(0, .agg ⟨[.int .i64 ra0.Rise, .int .i64 ra0.Fall]⟩)], [.code k25_3], [], false, none⟩, [], [], 0⟩ (fun v H _ => Res 0 (rx25 res) v H) := by
  unfold R21_RightF at h
  refine ev_ok tab_ok hS true 3000 ?_
  conv => whnf
  refine br.h2 h ?_ ?_ ?_
  · rfl
  · clear h; intro hb h; conv => whnf
    all_goals (cases h; exact Res.z rfl rfl rfl)
  clear h; intro hb h; conv => whnf
  refine br.h2 h ?_ ?_ ?_
  · rfl
  · clear h; intro hb h; conv => whnf
    all_goals (cases h; exact Res.z rfl rfl rfl)
  clear h; intro hb h; conv => whnf
  refine br.h h ?_ ?_ ?_
  · rfl
  · clear h; intro hb h; conv => whnf
    all_goals (cases h; exact Res.z rfl rfl rfl)
  clear h; intro hb h; conv => whnf
  all_goals (cases h; exact Res.z rfl rfl rfl)
theorem ok25 (hS : SumsOK Try.prog (aget (sums25))) : SumOK Try.prog 25 (s25 (R21_RightF)) := by
  refine SumOK.of_leads tab_ok (fun ar os r ha hr => ?_) ⟨Try.f25, rfl, by decide, rfl⟩
  replace hr : r25 (R21_RightF) ar (conts os) = some r := hr
  unfold r25 at hr
  generalize hc : conts os = C at hr
  replace hr := dV.elim hr; obtain ⟨v0, l1, y0, rfl, e0, hr⟩ := hr; obtain rfl := uvhealth_Rule_eq _ _ e0
  replace hr := dFin hr; obtain ⟨rfl, rfl, x, h, rfl⟩ := hr
  obtain rfl := kinds_nil hc
  exact ⟨_, rfl, leads25 hS _ x h⟩
def R21_Right : health_Rule → Option Bool := R21_RightF
theorem lift25 : SumOK Try.prog 25 (s25 R21_Right) := ok25 (SumsOK.of_tab trivial)
def R23_weighsF (n : Int) : Option Bool :=
  cond (decide (n ≥ 0))
    (
    some (decide (n ≤ 1000)))
    (
    some (false))
def rx124 (x : Bool) : SRes := ⟨.bool x, [], []⟩
def r124 (g : Int → Option Bool) : Dec := dV (asI .i64) fun (y0 : Int) => dEnd (ofG (g y0) rx124)
theorem r124_c {g : Int → Option Bool} {y0 : Int} {x : Bool} (hx : g y0 = some x) : r124 g [.int .i64 y0] [] = some (rx124 x) := (dV_eq (asI_c _)).trans (ofG_eq hx)
def s124 (g : Int → Option Bool) : Summ := ⟨[.v], r124 g⟩
theorem r124_eq {g : Int → Option Bool} {y0 : Int} {x : Bool} (hx : g y0 = some x) : (s124 g).run [.int .i64 y0] [] = some (rx124 x) := r124_c hx
abbrev sums124 : List (Nat × Summ) := []
theorem leads124 (hS : SumsOK Try.prog (aget (sums124))) (n : Int) (res : Bool) (h : R23_weighsF n = some res) :
    Leads Try.prog 124 0 ⟨⟨124, 9, [(0, .int .i64 n)], [.code k124_3], [], false, none⟩, [], [], 0⟩ (fun v H _ => Res 0 (rx124 res) v H) := by
  unfold R23_weighsF at h
  refine ev_ok tab_ok hS true 3000 ?_
  conv => whnf
  refine br.h h ?_ ?_ ?_
  · rfl
  · clear h; intro hb h; conv => whnf
    all_goals (cases h; exact Res.z rfl rfl rfl)
  clear h; intro hb h; conv => whnf
  all_goals (cases h; exact Res.z rfl rfl rfl)
theorem ok124 (hS : SumsOK Try.prog (aget (sums124))) : SumOK Try.prog 124 (s124 (R23_weighsF)) := by
  refine SumOK.of_leads tab_ok (fun ar os r ha hr => ?_) ⟨Try.f124, rfl, by decide, rfl⟩
  replace hr : r124 (R23_weighsF) ar (conts os) = some r := hr
  unfold r124 at hr
  generalize hc : conts os = C at hr
  replace hr := dV.elim hr; obtain ⟨v0, l1, y0, rfl, e0, hr⟩ := hr; obtain rfl := asI_eq _ _ _ e0
  replace hr := dFin hr; obtain ⟨rfl, rfl, x, h, rfl⟩ := hr
  obtain rfl := kinds_nil hc
  exact ⟨_, rfl, leads124 hS _ x h⟩
def R23_weighs : Int → Option Bool := R23_weighsF
theorem lift124 : SumOK Try.prog 124 (s124 R23_weighs) := ok124 (SumsOK.of_tab trivial)
def R23_Registry_AddF (R04_Right : api_Addr → Option Bool) (R23_weighs : Int → Option Bool) (ga0 : R23_Registry) (weight : Int) (a : api_Addr) : Option (Int × Int × R23_Registry) :=
  (R23_weighs weight).bind fun w =>
  cond (!w)
    (
    some ((0, 1, ga0)))
    (
    (R04_Right a).bind fun xr =>
    cond (!xr)
      (
      some ((0, 1, ga0)))
      (
      cond (decide ((ga0.L.length : Int) ≥ 64))
        (
        some ((0, 9, ga0)))
        (
        cond (decide (ga0.Last ≥ 65535))
          (
          some ((0, 9, ga0)))
          (
          oreq (decide ((ga0.L.length + 1) * 64 ≤ 2 ^ 47)) <|
          let row := ga0.L ++ [R23_Row.mk (wI .i64 (ga0.Last + 1)) weight a false (health_State.mk true 0)]
          some ((wI .i64 (ga0.Last + 1), 0, R23_Registry.mk ga0.Rule row (wI .i64 (ga0.Last + 1)) (wI .i64 (ga0.Version + 1))))))))
def rx75 (x : Int × Int × R23_Registry) : SRes := ⟨.tuple ⟨[.int .i64 x.1, .int .i64 x.2.1]⟩, [(vT cR23_Row x.2.2.L)], [some [.int .i64 x.2.2.Rule.Rise, .int .i64 x.2.2.Rule.Fall, .slice (some ⟨0, 0, none⟩) x.2.2.L.length 8, .int .i64 x.2.2.Last, .int .i64 x.2.2.Version], none]⟩
def r75 (g : R23_Registry → Int → api_Addr → Option (Int × Int × R23_Registry)) : Dec := dTr 2 (udR23_Registry 0) fun (y0 : R23_Registry) => dV (asI .i64) fun (y1 : Int) => dV uvapi_Addr fun (y2 : api_Addr) => dEnd (ofG (g y0 y1 y2) rx75)
theorem r75_c {g : R23_Registry → Int → api_Addr → Option (Int × Int × R23_Registry)} {y0 : R23_Registry} {y1 : Int} {y2 : api_Addr} {x : Int × Int × R23_Registry} (hx : g y0 y1 y2 = some x) : r75 g [.pointer (some ⟨0, 0, none⟩), .int .i64 y1, .agg ⟨[.bool y2.V6, .int .u64 y2.Hi, .int .u64 y2.Lo]⟩] [some [.int .i64 y0.Rule.Rise, .int .i64 y0.Rule.Fall, .slice (some ⟨1, 0, none⟩) y0.L.length 8, .int .i64 y0.Last, .int .i64 y0.Version], some (vT cR23_Row y0.L)] = some (rx75 x) := (dTr_eq rfl rfl (udR23_Registry_c 0 _)).trans ((dV_eq (asI_c _)).trans ((dV_eq (uvapi_Addr_c _)).trans (ofG_eq hx)))
def s75 (g : R23_Registry → Int → api_Addr → Option (Int × Int × R23_Registry)) : Summ := ⟨[.tr [⟨none, 0, 0, 1, none⟩, ⟨some 0, 2, 0, 2, some 8⟩], .v, .v], r75 g⟩
theorem r75_eq {g : R23_Registry → Int → api_Addr → Option (Int × Int × R23_Registry)} {y0 : R23_Registry} {y1 : Int} {y2 : api_Addr} {x : Int × Int × R23_Registry} (hx : g y0 y1 y2 = some x) : (s75 g).run [.pointer (some ⟨0, 0, none⟩), .int .i64 y1, .agg ⟨[.bool y2.V6, .int .u64 y2.Hi, .int .u64 y2.Lo]⟩] [some [.int .i64 y0.Rule.Rise, .int .i64 y0.Rule.Fall, .slice (some ⟨1, 0, none⟩) y0.L.length 8, .int .i64 y0.Last, .int .i64 y0.Version], some (vT cR23_Row y0.L)] = some (rx75 x) := r75_c hx
abbrev sums75 (R04_Right : api_Addr → Option Bool) (R23_weighs : Int → Option Bool) : List (Nat × Summ) := [(115, s115 R04_Right), (124, s124 R23_weighs)]
theorem leads75 (R04_Right : api_Addr → Option Bool) (R23_weighs : Int → Option Bool) (hS : SumsOK Try.prog (aget (sums75 R04_Right R23_weighs))) (ga0 : R23_Registry) (weight : Int) (a : api_Addr) (res : Int × Int × R23_Registry) (h : R23_Registry_AddF R04_Right R23_weighs ga0 weight a = some res) :
    Leads Try.prog 75 2 ⟨⟨75, 64, [(0, .pointer (some ⟨0, 0, none⟩)), (1, .int .i64 weight), (2, .agg ⟨[.bool a.V6, .int .u64 a.Hi, .int .u64 a.Lo]⟩)], [.code k75_21], [], false, none⟩, [], [(0, .cells [.int .i64 ga0.Rule.Rise, .int .i64 ga0.Rule.Fall, .slice (some ⟨1, 0, none⟩) ga0.L.length 8, .int .i64 ga0.Last, .int .i64 ga0.Version]), (1, .row true (vT cR23_Row ga0.L))], 2⟩ (fun v H _ => Res 2 (rx75 res) v H) := by
  unfold R23_Registry_AddF at h
  refine ev_ok tab_ok hS true 3000 ?_
  conv => whnf
  replace h := obind.elim h; obtain ⟨w, hy, h⟩ := h
  refine sumK.q rfl rfl (r124_eq hy) rfl rfl rfl ?_
  conv => whnf
  refine br.h h ?_ ?_ ?_
  · rfl
  · clear h; intro hb h; conv => whnf
    all_goals (cases h)
    all_goals exact Res.of [1] rfl (nw_s (rn_T cR23_Row_flat) (hs_row rfl) nw_0) (by decide) (js_r rfl js_0) (wr_s (rfl) (hs_cells rfl) (wr_n wr_0))
  clear h; intro hb h; conv => whnf
  replace h := obind.elim h; obtain ⟨xr, hy, h⟩ := h
  refine sumK.q rfl rfl (r115_eq hy) rfl rfl rfl ?_
  conv => whnf
  refine br.h h ?_ ?_ ?_
  · rfl
  · clear h; intro hb h; conv => whnf
    all_goals (cases h)
    all_goals exact Res.of [1] rfl (nw_s (rn_T cR23_Row_flat) (hs_row rfl) nw_0) (by decide) (js_r rfl js_0) (wr_s (rfl) (hs_cells rfl) (wr_n wr_0))
  clear h; intro hb h; conv => whnf
  refine br.h h ?_ ?_ ?_
  · rfl
  · clear h; intro hb h; conv => whnf
    all_goals (cases h)
    all_goals exact Res.of [1] rfl (nw_s (rn_T cR23_Row_flat) (hs_row rfl) nw_0) (by decide) (js_r rfl js_0) (wr_s (rfl) (hs_cells rfl) (wr_n wr_0))
  clear h; intro hb h; conv => whnf
  refine br.h h ?_ ?_ ?_
  · rfl
  · clear h; intro hb h; conv => whnf
    all_goals (cases h)
    all_goals exact Res.of [1] rfl (nw_s (rn_T cR23_Row_flat) (hs_row rfl) nw_0) (by decide) (js_r rfl js_0) (wr_s (rfl) (hs_cells rfl) (wr_n wr_0))
  clear h; intro hb h; conv => whnf
  replace h := oreq.elim h; obtain ⟨hb, h⟩ := h
  refine req.intro (ap_req (of_decide_eq_true hb) (by first | rfl | omega | (simp; done) | (simp; omega) | (simp at *; omega)) rfl (by first | rfl | omega | (simp; done) | (simp; omega) | (simp at *; omega)) (by first | rfl | exact vI_one _ _ | exact vS_one _ | exact vB_one _ | exact vT_one (by first | exact capi_Addr_one | exact capi_Tuple_one | exact capi_Packet_one | exact capi_Key_one | exact cR23_Step_one | exact cstateless_Clue_one | exact chealth_Rule_one | exact capi_Backend_one | exact chealth_State_one | exact cregistry_row_one | exact capi_Layout_one | exact cArr4_Int_one | exact csip_Hasher_one | exact ccookie_layout_one | exact cR23_Row_one) _ | (rw [ofBytes_vI]; exact vI_one _ _) | (simp [vI_one, vS_one, vB_one, vI_drop, vI_take, vS_drop, vS_take]; done) | (simp; exact List.all_eq_true.1 (vT_one (by first | exact capi_Addr_one | exact capi_Tuple_one | exact capi_Packet_one | exact capi_Key_one | exact cR23_Step_one | exact cstateless_Clue_one | exact chealth_Rule_one | exact capi_Backend_one | exact chealth_State_one | exact cregistry_row_one | exact capi_Layout_one | exact cArr4_Int_one | exact csip_Hasher_one | exact ccookie_layout_one | exact cR23_Row_one) _))) rfl) ?_
  conv => whnf
  let row : List R23_Row := ga0.L ++ [R23_Row.mk (wI .i64 (ga0.Last + 1)) weight a false (health_State.mk true 0)]
  refine pk_apT cR23_Row_len (xs := ga0.L) (ys := [R23_Row.mk (wI .i64 (ga0.Last + 1)) weight a false (health_State.mk true 0)]) rfl (by first | rfl | omega) (by first | rfl | omega | (simp; done) | (simp; omega) | (simp at *; omega)) (by first | rfl | omega | (simp; done) | (simp; omega) | (simp at *; omega)) ?_
  conv => whnf
  all_goals (cases h)
  all_goals exact Res.of [18] rfl (nw_s (rn_T cR23_Row_flat) (hs_row rfl) nw_0) (by decide) (js_l (by decide) js_0) (wr_s (rfl) (hs_cells rfl) (wr_n wr_0))
theorem ok75 (R04_Right : api_Addr → Option Bool) (R23_weighs : Int → Option Bool) (hS : SumsOK Try.prog (aget (sums75 R04_Right R23_weighs))) : SumOK Try.prog 75 (s75 (R23_Registry_AddF R04_Right R23_weighs)) := by
  refine SumOK.of_leads tab_ok (fun ar os r ha hr => ?_) ⟨Try.f75, rfl, by decide, rfl⟩
  replace hr : r75 (R23_Registry_AddF R04_Right R23_weighs) ar (conts os) = some r := hr
  unfold r75 at hr
  generalize hc : conts os = C at hr
  have hq := dTr.elim hr; clear hr; obtain ⟨v0, l1, c0, C, y0, rfl, rfl, e0, hr⟩ := hq; obtain ⟨rfl, rfl⟩ := udR23_Registry_eq e0; simp only [List.nil_append, List.cons_append] at hc
  replace hr := dV.elim hr; obtain ⟨v1, l2, y1, rfl, e1, hr⟩ := hr; obtain rfl := asI_eq _ _ _ e1
  replace hr := dV.elim hr; obtain ⟨v2, l3, y2, rfl, e2, hr⟩ := hr; obtain rfl := uvapi_Addr_eq _ _ e2
  replace hr := dFin hr; obtain ⟨rfl, rfl, x, h, rfl⟩ := hr
  obtain ⟨os, rfl, ha, hc⟩ := kinds_some ha hc
  obtain ⟨os, rfl, ha, hc⟩ := kinds_some ha hc
  obtain rfl := kinds_nil hc
  exact ⟨_, rfl, leads75 R04_Right R23_weighs hS _ _ _ x h⟩
def R23_Registry_Add : R23_Registry → Int → api_Addr → Option (Int × Int × R23_Registry) := R23_Registry_AddF R04_Right R23_weighs
theorem lift75 : SumOK Try.prog 75 (s75 R23_Registry_Add) := ok75 R04_Right R23_weighs (SumsOK.of_tab ⟨lift115, lift124, trivial⟩)
def R23_Registry_set_s1 (ga0 : R23_Registry) (ata1 : Int) (ra2 : R23_Row) (i : Int) (out1 : List R23_Row) : Option (Sum (Int × (List R23_Row)) R23_Registry) :=
  cond (decide (i < (ga0.L.length : Int)))
    (
    cond (i == ata1)
      (
      oreq (decide ((out1.length + 1) * 64 ≤ 2 ^ 47)) <|
      let row := out1 ++ [ra2]
      some (.inl (wI .i64 (i + 1), row)))
      (
      oreq (decide ((0 : Int) ≤ i ∧ i < (ga0.L.length : Int))) <|
      (ga0.L[i.toNat]?).bind fun (e : R23_Row) =>
      oreq (decide ((out1.length + 1) * 64 ≤ 2 ^ 47)) <|
      let row1 := out1 ++ [e]
      some (.inl (wI .i64 (i + 1), row1))))
    (
    some (.inr (R23_Registry.mk ga0.Rule out1 ga0.Last (wI .i64 (ga0.Version + 1)))))
def R23_Registry_setF (ga0 : R23_Registry) (ata1 : Int) (ra2 : R23_Row) : Option R23_Registry :=
  iter (fun st => R23_Registry_set_s1 ga0 ata1 ra2 st.1 st.2) FUEL (0, [])
def rx125 (x : R23_Registry) : SRes := ⟨.tuple ⟨[]⟩, [(vT cR23_Row x.L)], [some [.int .i64 x.Rule.Rise, .int .i64 x.Rule.Fall, .slice (some ⟨0, 0, none⟩) x.L.length 8, .int .i64 x.Last, .int .i64 x.Version], none]⟩
def r125 (g : R23_Registry → Int → R23_Row → Option R23_Registry) : Dec := dTr 2 (udR23_Registry 0) fun (y0 : R23_Registry) => dV (asI .i64) fun (y1 : Int) => dV uvR23_Row fun (y2 : R23_Row) => dEnd (ofG (g y0 y1 y2) rx125)
theorem r125_c {g : R23_Registry → Int → R23_Row → Option R23_Registry} {y0 : R23_Registry} {y1 : Int} {y2 : R23_Row} {x : R23_Registry} (hx : g y0 y1 y2 = some x) : r125 g [.pointer (some ⟨0, 0, none⟩), .int .i64 y1, .agg ⟨[.int .i64 y2.ID, .int .i64 y2.Weight, .bool y2.Addr.V6, .int .u64 y2.Addr.Hi, .int .u64 y2.Addr.Lo, .bool y2.Drain, .bool y2.Health.Up, .int .i64 y2.Health.Run]⟩] [some [.int .i64 y0.Rule.Rise, .int .i64 y0.Rule.Fall, .slice (some ⟨1, 0, none⟩) y0.L.length 8, .int .i64 y0.Last, .int .i64 y0.Version], some (vT cR23_Row y0.L)] = some (rx125 x) := (dTr_eq rfl rfl (udR23_Registry_c 0 _)).trans ((dV_eq (asI_c _)).trans ((dV_eq (uvR23_Row_c _)).trans (ofG_eq hx)))
def s125 (g : R23_Registry → Int → R23_Row → Option R23_Registry) : Summ := ⟨[.tr [⟨none, 0, 0, 1, none⟩, ⟨some 0, 2, 0, 2, some 8⟩], .v, .v], r125 g⟩
theorem r125_eq {g : R23_Registry → Int → R23_Row → Option R23_Registry} {y0 : R23_Registry} {y1 : Int} {y2 : R23_Row} {x : R23_Registry} (hx : g y0 y1 y2 = some x) : (s125 g).run [.pointer (some ⟨0, 0, none⟩), .int .i64 y1, .agg ⟨[.int .i64 y2.ID, .int .i64 y2.Weight, .bool y2.Addr.V6, .int .u64 y2.Addr.Hi, .int .u64 y2.Addr.Lo, .bool y2.Drain, .bool y2.Health.Up, .int .i64 y2.Health.Run]⟩] [some [.int .i64 y0.Rule.Rise, .int .i64 y0.Rule.Fall, .slice (some ⟨1, 0, none⟩) y0.L.length 8, .int .i64 y0.Last, .int .i64 y0.Version], some (vT cR23_Row y0.L)] = some (rx125 x) := r125_c hx
abbrev sums125 : List (Nat × Summ) := []
def head125_1 (ga0 : R23_Registry) (ata1 : Int) (ra2 : R23_Row) (i : Int) (out1 : List R23_Row) : VM :=
  ⟨⟨125, 45, [(0, .pointer (some ⟨0, 0, none⟩)), (1, .int .i64 ata1), (5, .pointer (some ⟨2, 0, none⟩)), (6, .slice (some ⟨3, 0, none⟩) out1.length 8), (7, .int .i64 i)], [.code k125_14, .inLoop k125_14, .inBlock 0, .code k125_20], [], false, none⟩, [], [(0, .cells [.int .i64 ga0.Rule.Rise, .int .i64 ga0.Rule.Fall, .slice (some ⟨1, 0, none⟩) ga0.L.length 8, .int .i64 ga0.Last, .int .i64 ga0.Version]), (1, .row true (vT cR23_Row ga0.L)), (2, .cells [.int .i64 ra2.ID, .int .i64 ra2.Weight, .bool ra2.Addr.V6, .int .u64 ra2.Addr.Hi, .int .u64 ra2.Addr.Lo, .bool ra2.Drain, .bool ra2.Health.Up, .int .i64 ra2.Health.Run]), (3, .row true (vT cR23_Row out1))], 4⟩
theorem loop125_1 (hS : SumsOK Try.prog (aget (sums125))) (ga0 : R23_Registry) (ata1 : Int) (ra2 : R23_Row) (res : R23_Registry) : ∀ fuel (st : Int × (List R23_Row)) (o : R23_Registry), iter (fun st => R23_Registry_set_s1 ga0 ata1 ra2 st.1 st.2) fuel st = some o → (o = res) →
    Leads Try.prog 125 2 (head125_1 ga0 ata1 ra2 st.1 st.2) (fun v H _ => Res 2 (rx125 res) v H) := by
  intro fuel st o h hc
  refine iter_leads (head := fun st => head125_1 ga0 ata1 ra2 st.1 st.2) (C := fun o => (o = res)) ?_ fuel st o h hc
  clear h hc o st fuel
  intro st o h hc
  obtain ⟨i, out1⟩ := st
  replace h : R23_Registry_set_s1 ga0 ata1 ra2 i out1 = some o := h
  show Leads Try.prog 125 2 (head125_1 ga0 ata1 ra2 i out1) (fun v H _ => Res 2 (rx125 res) v H)
  unfold R23_Registry_set_s1 at h
  refine ev_ok tab_ok hS true 3000 ?_
  conv => whnf
  refine br.h2 h ?_ ?_ ?_
  · rfl
  · clear h; intro hb h; conv => whnf
    all_goals (cases h; cases hc)
    all_goals exact Res.of [3] rfl (nw_s (rn_T cR23_Row_flat) (hs_row rfl) nw_0) (by decide) (js_l (by decide) js_0) (wr_s (rfl) (hs_cells rfl) (wr_n wr_0))
  clear h; intro hb h; conv => whnf
  refine br.h h ?_ ?_ ?_
  · rfl
  · clear h; intro hb h; conv => whnf
    replace h := oreq.elim h; obtain ⟨hb, h⟩ := h
    refine req.intro (ap_req (of_decide_eq_true hb) (by first | rfl | omega | (simp; done) | (simp; omega) | (simp at *; omega)) rfl (by first | rfl | omega | (simp; done) | (simp; omega) | (simp at *; omega)) (by first | rfl | exact vI_one _ _ | exact vS_one _ | exact vB_one _ | exact vT_one (by first | exact capi_Addr_one | exact capi_Tuple_one | exact capi_Packet_one | exact capi_Key_one | exact cR23_Step_one | exact cstateless_Clue_one | exact chealth_Rule_one | exact capi_Backend_one | exact chealth_State_one | exact cregistry_row_one | exact capi_Layout_one | exact cArr4_Int_one | exact csip_Hasher_one | exact ccookie_layout_one | exact cR23_Row_one) _ | (rw [ofBytes_vI]; exact vI_one _ _) | (simp [vI_one, vS_one, vB_one, vI_drop, vI_take, vS_drop, vS_take]; done) | (simp; exact List.all_eq_true.1 (vT_one (by first | exact capi_Addr_one | exact capi_Tuple_one | exact capi_Packet_one | exact capi_Key_one | exact cR23_Step_one | exact cstateless_Clue_one | exact chealth_Rule_one | exact capi_Backend_one | exact chealth_State_one | exact cregistry_row_one | exact capi_Layout_one | exact cArr4_Int_one | exact csip_Hasher_one | exact ccookie_layout_one | exact cR23_Row_one) _))) rfl) ?_
    conv => whnf
    let row : List R23_Row := out1 ++ [ra2]
    refine pk_apT cR23_Row_len (xs := out1) (ys := [ra2]) rfl (by first | rfl | omega) (by first | rfl | omega | (simp; done) | (simp; omega) | (simp at *; omega)) (by first | rfl | omega | (simp; done) | (simp; omega) | (simp at *; omega)) ?_
    conv => whnf
    cases h; simp only [Sum.elim_inl, head125_1] at hc
    exact lrA1 hc [(0, 0), (1, 1), (2, 2), (3, 5)] rfl
  clear h; intro hb h; conv => whnf
  replace h := oreq.elim h; obtain ⟨hb, h⟩ := h
  first | (refine req.intro hb ?_; conv => whnf) | skip
  replace h := obind.elim h; obtain ⟨e, hy, h⟩ := h
  refine ld_T cR23_Row_len hy (by first | omega | exact Nat.zero_add _ | exact congrArg (· + _) (Nat.zero_add _)) rfl ?_
  conv => whnf
  replace h := oreq.elim h; obtain ⟨hb, h⟩ := h
  refine req.intro (ap_req (of_decide_eq_true hb) (by first | rfl | omega | (simp; done) | (simp; omega) | (simp at *; omega)) rfl (by first | rfl | omega | (simp; done) | (simp; omega) | (simp at *; omega)) (by first | rfl | exact vI_one _ _ | exact vS_one _ | exact vB_one _ | exact vT_one (by first | exact capi_Addr_one | exact capi_Tuple_one | exact capi_Packet_one | exact capi_Key_one | exact cR23_Step_one | exact cstateless_Clue_one | exact chealth_Rule_one | exact capi_Backend_one | exact chealth_State_one | exact cregistry_row_one | exact capi_Layout_one | exact cArr4_Int_one | exact csip_Hasher_one | exact ccookie_layout_one | exact cR23_Row_one) _ | (rw [ofBytes_vI]; exact vI_one _ _) | (simp [vI_one, vS_one, vB_one, vI_drop, vI_take, vS_drop, vS_take]; done) | (simp; exact List.all_eq_true.1 (vT_one (by first | exact capi_Addr_one | exact capi_Tuple_one | exact capi_Packet_one | exact capi_Key_one | exact cR23_Step_one | exact cstateless_Clue_one | exact chealth_Rule_one | exact capi_Backend_one | exact chealth_State_one | exact cregistry_row_one | exact capi_Layout_one | exact cArr4_Int_one | exact csip_Hasher_one | exact ccookie_layout_one | exact cR23_Row_one) _))) rfl) ?_
  conv => whnf
  let row1 : List R23_Row := out1 ++ [e]
  refine pk_apT cR23_Row_len (xs := out1) (ys := [e]) rfl (by first | rfl | omega) (by first | rfl | omega | (simp; done) | (simp; omega) | (simp at *; omega)) (by first | rfl | omega | (simp; done) | (simp; omega) | (simp at *; omega)) ?_
  conv => whnf
  cases h; simp only [Sum.elim_inl, head125_1] at hc
  exact lrA1 hc [(0, 0), (1, 1), (2, 2), (3, 5)] rfl
theorem leads125 (hS : SumsOK Try.prog (aget (sums125))) (ga0 : R23_Registry) (ata1 : Int) (ra2 : R23_Row) (res : R23_Registry) (h : R23_Registry_setF ga0 ata1 ra2 = some res) :
    Leads Try.prog 125 2 ⟨⟨125, 45, [(0, .pointer (some ⟨0, 0, none⟩)), (1, .int .i64 ata1), (2, .agg ⟨[.int .i64 ra2.ID, .int .i64 ra2.Weight, .bool ra2.Addr.V6, .int .u64 ra2.Addr.Hi, .int .u64 ra2.Addr.Lo, .bool ra2.Drain, .bool ra2.Health.Up, .int .i64 ra2.Health.Run]⟩)], [.code k125_23], [], false, none⟩, [], [(0, .cells [.int .i64 ga0.Rule.Rise, .int .i64 ga0.Rule.Fall, .slice (some ⟨1, 0, none⟩) ga0.L.length 8, .int .i64 ga0.Last, .int .i64 ga0.Version]), (1, .row true (vT cR23_Row ga0.L))], 2⟩ (fun v H _ => Res 2 (rx125 res) v H) := by
  unfold R23_Registry_setF at h
  refine ev_ok tab_ok hS true 3000 ?_
  conv => whnf
  have hl := loop125_1 hS _ _ _ res _ _ _ h rfl; simp only [head125_1] at hl
  refine Leads.nilT 6 8 ?_
  exact lrA1 hl [(0, 0), (1, 1), (2, 2), (3, 3)] rfl
theorem ok125 (hS : SumsOK Try.prog (aget (sums125))) : SumOK Try.prog 125 (s125 (R23_Registry_setF)) := by
  refine SumOK.of_leads tab_ok (fun ar os r ha hr => ?_) ⟨Try.f125, rfl, by decide, rfl⟩
  replace hr : r125 (R23_Registry_setF) ar (conts os) = some r := hr
  unfold r125 at hr
  generalize hc : conts os = C at hr
  have hq := dTr.elim hr; clear hr; obtain ⟨v0, l1, c0, C, y0, rfl, rfl, e0, hr⟩ := hq; obtain ⟨rfl, rfl⟩ := udR23_Registry_eq e0; simp only [List.nil_append, List.cons_append] at hc
  replace hr := dV.elim hr; obtain ⟨v1, l2, y1, rfl, e1, hr⟩ := hr; obtain rfl := asI_eq _ _ _ e1
  replace hr := dV.elim hr; obtain ⟨v2, l3, y2, rfl, e2, hr⟩ := hr; obtain rfl := uvR23_Row_eq _ _ e2
  replace hr := dFin hr; obtain ⟨rfl, rfl, x, h, rfl⟩ := hr
  obtain ⟨os, rfl, ha, hc⟩ := kinds_some ha hc
  obtain ⟨os, rfl, ha, hc⟩ := kinds_some ha hc
  obtain rfl := kinds_nil hc
  exact ⟨_, rfl, leads125 hS _ _ _ x h⟩
def R23_Registry_set : R23_Registry → Int → R23_Row → Option R23_Registry := R23_Registry_setF
theorem lift125 : SumOK Try.prog 125 (s125 R23_Registry_set) := ok125 (SumsOK.of_tab trivial)
def R23_Registry_DrainF (R23_Registry_at : R23_Registry → Int → Option Int) (R23_Registry_set : R23_Registry → Int → R23_Row → Option R23_Registry) (ga0 : R23_Registry) (ida1 : Int) (on : Bool) : Option (Int × R23_Registry) :=
  (R23_Registry_at ga0 ida1).bind fun a =>
  cond (decide (a < 0))
    (
    some ((13, ga0)))
    (
    oreq (decide ((0 : Int) ≤ a ∧ a < (ga0.L.length : Int))) <|
    (ga0.L[a.toNat]?).bind fun (e : R23_Row) =>
    cond (e.Drain == on)
      (
      some ((11, ga0)))
      (
      (R23_Registry_set ga0 a (R23_Row.mk e.ID e.Weight e.Addr on e.Health)).bind fun s =>
      some ((0, s))))
def rx77 (x : Int × R23_Registry) : SRes := ⟨.int .i64 x.1, [(vT cR23_Row x.2.L)], [some [.int .i64 x.2.Rule.Rise, .int .i64 x.2.Rule.Fall, .slice (some ⟨0, 0, none⟩) x.2.L.length 8, .int .i64 x.2.Last, .int .i64 x.2.Version], none]⟩
def r77 (g : R23_Registry → Int → Bool → Option (Int × R23_Registry)) : Dec := dTr 2 (udR23_Registry 0) fun (y0 : R23_Registry) => dV (asI .i64) fun (y1 : Int) => dV asB fun (y2 : Bool) => dEnd (ofG (g y0 y1 y2) rx77)
theorem r77_c {g : R23_Registry → Int → Bool → Option (Int × R23_Registry)} {y0 : R23_Registry} {y1 : Int} {y2 : Bool} {x : Int × R23_Registry} (hx : g y0 y1 y2 = some x) : r77 g [.pointer (some ⟨0, 0, none⟩), .int .i64 y1, .bool y2] [some [.int .i64 y0.Rule.Rise, .int .i64 y0.Rule.Fall, .slice (some ⟨1, 0, none⟩) y0.L.length 8, .int .i64 y0.Last, .int .i64 y0.Version], some (vT cR23_Row y0.L)] = some (rx77 x) := (dTr_eq rfl rfl (udR23_Registry_c 0 _)).trans ((dV_eq (asI_c _)).trans ((dV_eq (asB_c)).trans (ofG_eq hx)))
def s77 (g : R23_Registry → Int → Bool → Option (Int × R23_Registry)) : Summ := ⟨[.tr [⟨none, 0, 0, 1, none⟩, ⟨some 0, 2, 0, 2, some 8⟩], .v, .v], r77 g⟩
theorem r77_eq {g : R23_Registry → Int → Bool → Option (Int × R23_Registry)} {y0 : R23_Registry} {y1 : Int} {y2 : Bool} {x : Int × R23_Registry} (hx : g y0 y1 y2 = some x) : (s77 g).run [.pointer (some ⟨0, 0, none⟩), .int .i64 y1, .bool y2] [some [.int .i64 y0.Rule.Rise, .int .i64 y0.Rule.Fall, .slice (some ⟨1, 0, none⟩) y0.L.length 8, .int .i64 y0.Last, .int .i64 y0.Version], some (vT cR23_Row y0.L)] = some (rx77 x) := r77_c hx
abbrev sums77 (R23_Registry_at : R23_Registry → Int → Option Int) (R23_Registry_set : R23_Registry → Int → R23_Row → Option R23_Registry) : List (Nat × Summ) := [(73, s73 R23_Registry_at), (125, s125 R23_Registry_set)]
theorem leads77 (R23_Registry_at : R23_Registry → Int → Option Int) (R23_Registry_set : R23_Registry → Int → R23_Row → Option R23_Registry) (hS : SumsOK Try.prog (aget (sums77 R23_Registry_at R23_Registry_set))) (ga0 : R23_Registry) (ida1 : Int) (on : Bool) (res : Int × R23_Registry) (h : R23_Registry_DrainF R23_Registry_at R23_Registry_set ga0 ida1 on = some res) :
    Leads Try.prog 77 2 ⟨⟨77, 31, [(0, .pointer (some ⟨0, 0, none⟩)), (1, .int .i64 ida1), (2, .bool on)], [.code k77_23], [], false, none⟩, [], [(0, .cells [.int .i64 ga0.Rule.Rise, .int .i64 ga0.Rule.Fall, .slice (some ⟨1, 0, none⟩) ga0.L.length 8, .int .i64 ga0.Last, .int .i64 ga0.Version]), (1, .row true (vT cR23_Row ga0.L))], 2⟩ (fun v H _ => Res 2 (rx77 res) v H) := by
  unfold R23_Registry_DrainF at h
  refine ev_ok tab_ok hS true 3000 ?_
  conv => whnf
  replace h := obind.elim h; obtain ⟨a, hy, h⟩ := h
  refine sumK.introF [] (sumRun_of (aqs := [.pointer (some ⟨0, 0, none⟩), .int .i64 ida1]) (ws := [.blk 0 false, .blk 1 false]) (n := 0) (m := 0) (t' := 2) (ra_cons (ra_tr rfl rfl (vp_at rfl rfl rfl rfl (vp_at rfl rfl (rn_T cR23_Row_flat) rfl vp_nil)) rfl) rfl (ra_cons rfl rfl ra_nil)) rfl (by rfl) (r73_eq hy) rfl rfl rfl rfl (wb_skip rfl (wb_skip rfl wb_nil)) an_nil rfl) ?_
  conv => whnf
  refine br.h h ?_ ?_ ?_
  · rfl
  · clear h; intro hb h; conv => whnf
    all_goals (cases h)
    all_goals exact Res.of [1] rfl (nw_s (rn_T cR23_Row_flat) (hs_row rfl) nw_0) (by decide) (js_r rfl js_0) (wr_s (rfl) (hs_cells rfl) (wr_n wr_0))
  clear h; intro hb h; conv => whnf
  replace h := oreq.elim h; obtain ⟨hb, h⟩ := h
  first | (refine req.intro hb ?_; conv => whnf) | skip
  replace h := obind.elim h; obtain ⟨e, hy, h⟩ := h
  refine ld_T cR23_Row_len hy (by first | omega | exact Nat.zero_add _ | exact congrArg (· + _) (Nat.zero_add _)) rfl ?_
  conv => whnf
  refine br.h h ?_ ?_ ?_
  · rfl
  · clear h; intro hb h; conv => whnf
    all_goals (cases h)
    all_goals exact Res.of [1] rfl (nw_s (rn_T cR23_Row_flat) (hs_row rfl) nw_0) (by decide) (js_r rfl js_0) (wr_s (rfl) (hs_cells rfl) (wr_n wr_0))
  clear h; intro hb h; conv => whnf
  replace h := obind.elim h; obtain ⟨s, hy, h⟩ := h
  refine sumK.introF [0] (sumRun_of (aqs := [.pointer (some ⟨0, 0, none⟩), .int .i64 a, .agg ⟨[.int .i64 e.ID, .int .i64 e.Weight, .bool e.Addr.V6, .int .u64 e.Addr.Hi, .int .u64 e.Addr.Lo, .bool on, .bool e.Health.Up, .int .i64 e.Health.Run]⟩]) (ws := [.blk 0 true, .blk 1 true]) (n := 1) (m := 0) (t' := 4) (ra_cons (ra_tr rfl rfl (vp_at rfl rfl rfl rfl (vp_at rfl rfl (rn_T cR23_Row_flat) rfl vp_nil)) rfl) rfl (ra_cons rfl rfl (ra_cons rfl rfl ra_nil))) rfl (by rfl) (r125_eq hy) rfl rfl rfl rfl (wb_blk rfl rfl rfl rfl (wb_del wb_nil)) (an_cons (rn_T cR23_Row_flat) an_nil) rfl) ?_
  conv => whnf
  all_goals (cases h)
  all_goals exact Res.of [3] rfl (nw_s (rn_T cR23_Row_flat) (hs_row rfl) nw_0) (by decide) (js_l (by decide) js_0) (wr_s (rfl) (hs_cells rfl) (wr_n wr_0))
theorem ok77 (R23_Registry_at : R23_Registry → Int → Option Int) (R23_Registry_set : R23_Registry → Int → R23_Row → Option R23_Registry) (hS : SumsOK Try.prog (aget (sums77 R23_Registry_at R23_Registry_set))) : SumOK Try.prog 77 (s77 (R23_Registry_DrainF R23_Registry_at R23_Registry_set)) := by
  refine SumOK.of_leads tab_ok (fun ar os r ha hr => ?_) ⟨Try.f77, rfl, by decide, rfl⟩
  replace hr : r77 (R23_Registry_DrainF R23_Registry_at R23_Registry_set) ar (conts os) = some r := hr
  unfold r77 at hr
  generalize hc : conts os = C at hr
  have hq := dTr.elim hr; clear hr; obtain ⟨v0, l1, c0, C, y0, rfl, rfl, e0, hr⟩ := hq; obtain ⟨rfl, rfl⟩ := udR23_Registry_eq e0; simp only [List.nil_append, List.cons_append] at hc
  replace hr := dV.elim hr; obtain ⟨v1, l2, y1, rfl, e1, hr⟩ := hr; obtain rfl := asI_eq _ _ _ e1
  replace hr := dV.elim hr; obtain ⟨v2, l3, y2, rfl, e2, hr⟩ := hr; obtain rfl := asB_eq _ _ e2
  replace hr := dFin hr; obtain ⟨rfl, rfl, x, h, rfl⟩ := hr
  obtain ⟨os, rfl, ha, hc⟩ := kinds_some ha hc
  obtain ⟨os, rfl, ha, hc⟩ := kinds_some ha hc
  obtain rfl := kinds_nil hc
  exact ⟨_, rfl, leads77 R23_Registry_at R23_Registry_set hS _ _ _ x h⟩
def R23_Registry_Drain : R23_Registry → Int → Bool → Option (Int × R23_Registry) := R23_Registry_DrainF R23_Registry_at R23_Registry_set
theorem lift77 : SumOK Try.prog 77 (s77 R23_Registry_Drain) := ok77 R23_Registry_at R23_Registry_set (SumsOK.of_tab ⟨lift73, lift125, trivial⟩)
def R23_Registry_RemoveF (R23_Registry_at : R23_Registry → Int → Option Int) (ga0 : R23_Registry) (ida1 : Int) : Option (Int × R23_Registry) :=
  (R23_Registry_at ga0 ida1).bind fun a =>
  cond (decide (a < 0))
    (
    some ((13, ga0)))
    (
    oreq (decide ((0 : Int) ≤ a ∧ a ≤ (ga0.L.length : Int))) <|
    oreq (decide (a.toNat ≤ ga0.L.length)) <|
    oreq (decide (a.toNat * 64 ≤ 2 ^ 47)) <|
    oreq (decide ((0 : Int) ≤ (wI .i64 (a + 1)) ∧ (wI .i64 (a + 1)) ≤ (ga0.L.length : Int))) <|
    oreq (decide ((wI .i64 (a + 1)).toNat + (ga0.L.length - (wI .i64 (a + 1)).toNat) ≤ ga0.L.length)) <|
    oreq (decide (((ga0.L.take a.toNat).length + (ga0.L.length - (wI .i64 (a + 1)).toNat)) * 64 ≤ 2 ^ 47)) <|
    let row := (ga0.L.take a.toNat) ++ ((ga0.L.drop (wI .i64 (a + 1)).toNat).take (ga0.L.length - (wI .i64 (a + 1)).toNat))
    some ((0, R23_Registry.mk ga0.Rule row ga0.Last (wI .i64 (ga0.Version + 1)))))
def rx76 (x : Int × R23_Registry) : SRes := ⟨.int .i64 x.1, [(vT cR23_Row x.2.L)], [some [.int .i64 x.2.Rule.Rise, .int .i64 x.2.Rule.Fall, .slice (some ⟨0, 0, none⟩) x.2.L.length 8, .int .i64 x.2.Last, .int .i64 x.2.Version], none]⟩
def r76 (g : R23_Registry → Int → Option (Int × R23_Registry)) : Dec := dTr 2 (udR23_Registry 0) fun (y0 : R23_Registry) => dV (asI .i64) fun (y1 : Int) => dEnd (ofG (g y0 y1) rx76)
theorem r76_c {g : R23_Registry → Int → Option (Int × R23_Registry)} {y0 : R23_Registry} {y1 : Int} {x : Int × R23_Registry} (hx : g y0 y1 = some x) : r76 g [.pointer (some ⟨0, 0, none⟩), .int .i64 y1] [some [.int .i64 y0.Rule.Rise, .int .i64 y0.Rule.Fall, .slice (some ⟨1, 0, none⟩) y0.L.length 8, .int .i64 y0.Last, .int .i64 y0.Version], some (vT cR23_Row y0.L)] = some (rx76 x) := (dTr_eq rfl rfl (udR23_Registry_c 0 _)).trans ((dV_eq (asI_c _)).trans (ofG_eq hx))
def s76 (g : R23_Registry → Int → Option (Int × R23_Registry)) : Summ := ⟨[.tr [⟨none, 0, 0, 1, none⟩, ⟨some 0, 2, 0, 2, some 8⟩], .v], r76 g⟩
theorem r76_eq {g : R23_Registry → Int → Option (Int × R23_Registry)} {y0 : R23_Registry} {y1 : Int} {x : Int × R23_Registry} (hx : g y0 y1 = some x) : (s76 g).run [.pointer (some ⟨0, 0, none⟩), .int .i64 y1] [some [.int .i64 y0.Rule.Rise, .int .i64 y0.Rule.Fall, .slice (some ⟨1, 0, none⟩) y0.L.length 8, .int .i64 y0.Last, .int .i64 y0.Version], some (vT cR23_Row y0.L)] = some (rx76 x) := r76_c hx
abbrev sums76 (R23_Registry_at : R23_Registry → Int → Option Int) : List (Nat × Summ) := [(73, s73 R23_Registry_at)]
theorem leads76 (R23_Registry_at : R23_Registry → Int → Option Int) (hS : SumsOK Try.prog (aget (sums76 R23_Registry_at))) (ga0 : R23_Registry) (ida1 : Int) (res : Int × R23_Registry) (h : R23_Registry_RemoveF R23_Registry_at ga0 ida1 = some res) :
    Leads Try.prog 76 2 ⟨⟨76, 39, [(0, .pointer (some ⟨0, 0, none⟩)), (1, .int .i64 ida1)], [.code k76_19], [], false, none⟩, [], [(0, .cells [.int .i64 ga0.Rule.Rise, .int .i64 ga0.Rule.Fall, .slice (some ⟨1, 0, none⟩) ga0.L.length 8, .int .i64 ga0.Last, .int .i64 ga0.Version]), (1, .row true (vT cR23_Row ga0.L))], 2⟩ (fun v H _ => Res 2 (rx76 res) v H) := by
  unfold R23_Registry_RemoveF at h
  refine ev_ok tab_ok hS true 3000 ?_
  conv => whnf
  replace h := obind.elim h; obtain ⟨a, hy, h⟩ := h
  refine sumK.introF [] (sumRun_of (aqs := [.pointer (some ⟨0, 0, none⟩), .int .i64 ida1]) (ws := [.blk 0 false, .blk 1 false]) (n := 0) (m := 0) (t' := 2) (ra_cons (ra_tr rfl rfl (vp_at rfl rfl rfl rfl (vp_at rfl rfl (rn_T cR23_Row_flat) rfl vp_nil)) rfl) rfl (ra_cons rfl rfl ra_nil)) rfl (by rfl) (r73_eq hy) rfl rfl rfl rfl (wb_skip rfl (wb_skip rfl wb_nil)) an_nil rfl) ?_
  conv => whnf
  refine br.h h ?_ ?_ ?_
  · rfl
  · clear h; intro hb h; conv => whnf
    all_goals (cases h)
    all_goals exact Res.of [1] rfl (nw_s (rn_T cR23_Row_flat) (hs_row rfl) nw_0) (by decide) (js_r rfl js_0) (wr_s (rfl) (hs_cells rfl) (wr_n wr_0))
  clear h; intro hb h; conv => whnf
  replace h := oreq.elim h; obtain ⟨hb, h⟩ := h
  first | (refine req.intro hb ?_; conv => whnf) | skip
  replace h := oreq.elim h; obtain ⟨hb, h⟩ := h
  refine req.intro (by (first | rfl | (simp [wI, vI, vB, vS, bI, oneC, addrBlk, cellsL, Value.cells] at *; omega) | (simp [vI, vB, vS, bI, oneC, addrBlk, cellsL, Value.cells] at *; omega) | (simp [vI, vB, vS, bI, oneC, addrBlk, cellsL, Value.cells] at *; done))) ?_
  conv => whnf
  replace h := oreq.elim h; obtain ⟨hb, h⟩ := h
  refine req.intro (ap0_req (of_decide_eq_true hb) (by first | rfl | omega | (simp; done) | (simp; omega) | (simp at *; omega))) ?_
  conv => whnf
  refine pk_ap0T (f := cR23_Row) (ys := ga0.L.take a.toNat) (by first | rfl | (simp; done) | (simp [vI, vB, vS, List.map_drop, List.map_take]; done)) (by first | rfl | omega | (simp; done) | (simp; omega) | (simp at *; omega)) ?_
  conv => whnf
  replace h := oreq.elim h; obtain ⟨hb, h⟩ := h
  first | (refine req.intro hb ?_; conv => whnf) | skip
  replace h := oreq.elim h; obtain ⟨hb, h⟩ := h
  refine req.intro (by (first | rfl | (simp [wI, vI, vB, vS, bI, oneC, addrBlk, cellsL, Value.cells] at *; omega) | (simp [vI, vB, vS, bI, oneC, addrBlk, cellsL, Value.cells] at *; omega) | (simp [vI, vB, vS, bI, oneC, addrBlk, cellsL, Value.cells] at *; done))) ?_
  conv => whnf
  replace h := oreq.elim h; obtain ⟨hb, h⟩ := h
  refine req.intro (ap_req (of_decide_eq_true hb) (by first | rfl | omega | (simp; done) | (simp; omega) | (simp at *; omega)) rfl (by first | rfl | omega | (simp; done) | (simp; omega) | (simp at *; omega)) (by first | rfl | exact vI_one _ _ | exact vS_one _ | exact vB_one _ | exact vT_one (by first | exact capi_Addr_one | exact capi_Tuple_one | exact capi_Packet_one | exact capi_Key_one | exact cR23_Step_one | exact cstateless_Clue_one | exact chealth_Rule_one | exact capi_Backend_one | exact chealth_State_one | exact cregistry_row_one | exact capi_Layout_one | exact cArr4_Int_one | exact csip_Hasher_one | exact ccookie_layout_one | exact cR23_Row_one) _ | (rw [ofBytes_vI]; exact vI_one _ _) | (simp [vI_one, vS_one, vB_one, vI_drop, vI_take, vS_drop, vS_take]; done) | (simp; exact List.all_eq_true.1 (vT_one (by first | exact capi_Addr_one | exact capi_Tuple_one | exact capi_Packet_one | exact capi_Key_one | exact cR23_Step_one | exact cstateless_Clue_one | exact chealth_Rule_one | exact capi_Backend_one | exact chealth_State_one | exact cregistry_row_one | exact capi_Layout_one | exact cArr4_Int_one | exact csip_Hasher_one | exact ccookie_layout_one | exact cR23_Row_one) _))) rfl) ?_
  conv => whnf
  let row : List R23_Row := (ga0.L.take a.toNat) ++ ((ga0.L.drop (wI .i64 (a + 1)).toNat).take (ga0.L.length - (wI .i64 (a + 1)).toNat))
  refine pk_apT cR23_Row_len (xs := ga0.L.take a.toNat) (ys := (ga0.L.drop (wI .i64 (a + 1)).toNat).take (ga0.L.length - (wI .i64 (a + 1)).toNat)) (by first | rfl | (simp; done) | (simp [vI, vB, vS, List.map_drop, List.map_take]; done)) (by first | rfl | omega) (by first | rfl | omega | (simp; done) | (simp; omega) | (simp at *; omega)) (by first | rfl | omega | (simp; done) | (simp; omega) | (simp at *; omega)) ?_
  conv => whnf
  all_goals (cases h)
  all_goals exact Res.of [3] rfl (nw_s (rn_T cR23_Row_flat) (hs_row rfl) nw_0) (by decide) (js_l (by decide) js_0) (wr_s (rfl) (hs_cells rfl) (wr_n wr_0))
theorem ok76 (R23_Registry_at : R23_Registry → Int → Option Int) (hS : SumsOK Try.prog (aget (sums76 R23_Registry_at))) : SumOK Try.prog 76 (s76 (R23_Registry_RemoveF R23_Registry_at)) := by
  refine SumOK.of_leads tab_ok (fun ar os r ha hr => ?_) ⟨Try.f76, rfl, by decide, rfl⟩
  replace hr : r76 (R23_Registry_RemoveF R23_Registry_at) ar (conts os) = some r := hr
  unfold r76 at hr
  generalize hc : conts os = C at hr
  have hq := dTr.elim hr; clear hr; obtain ⟨v0, l1, c0, C, y0, rfl, rfl, e0, hr⟩ := hq; obtain ⟨rfl, rfl⟩ := udR23_Registry_eq e0; simp only [List.nil_append, List.cons_append] at hc
  replace hr := dV.elim hr; obtain ⟨v1, l2, y1, rfl, e1, hr⟩ := hr; obtain rfl := asI_eq _ _ _ e1
  replace hr := dFin hr; obtain ⟨rfl, rfl, x, h, rfl⟩ := hr
  obtain ⟨os, rfl, ha, hc⟩ := kinds_some ha hc
  obtain ⟨os, rfl, ha, hc⟩ := kinds_some ha hc
  obtain rfl := kinds_nil hc
  exact ⟨_, rfl, leads76 R23_Registry_at hS _ _ x h⟩
def R23_Registry_Remove : R23_Registry → Int → Option (Int × R23_Registry) := R23_Registry_RemoveF R23_Registry_at
theorem lift76 : SumOK Try.prog 76 (s76 R23_Registry_Remove) := ok76 R23_Registry_at (SumsOK.of_tab ⟨lift73, trivial⟩)
end Go.Vm.Code
namespace Go.Vm.Code
open Go Go.Vm
def cv (r : registry_row) : R23_Row := ⟨r.Backend.ID, r.Backend.Weight, r.Backend.Addr, r.drains, r.health⟩
def cnv (g : registry_Registry) : R23_Registry := ⟨g.rule, g.rows.map cv, g.last, g.version⟩
theorem cnv_get (g : registry_Registry) {k : Nat} : (cnv g).L[k]? = g.rows[k]?.map cv := by simp [cnv]
theorem cnv_len (g : registry_Registry) : (cnv g).L.length = g.rows.length := by simp [cnv]
theorem rright_eq (r : health_Rule) : R21_Right r = some (ruleB r) := by
  unfold R21_Right R21_RightF ruleB
  by_cases h1 : r.Rise ≥ 1
  · rw [cond_p h1]
    by_cases h2 : r.Rise ≤ 100
    · rw [cond_p h2]
      by_cases h3 : r.Fall ≥ 1
      · rw [cond_p h3]; congr 1; rw [decide_eq_decide]; omega
      · rw [cond_n h3]; congr 1; symm; rw [decide_eq_false_iff_not]; omega
    · rw [cond_n h2]; congr 1; symm; rw [decide_eq_false_iff_not]; omega
  · rw [cond_n h1]; congr 1; symm; rw [decide_eq_false_iff_not]; omega
theorem rweighs_eq (n : Int) : R23_weighs n = some (weighB n) := by
  unfold R23_weighs R23_weighsF weighB
  by_cases h : n ≥ 0
  · rw [cond_p h]; congr 1; rw [decide_eq_decide]; omega
  · rw [cond_n h]; congr 1; symm; rw [decide_eq_false_iff_not]; omega
theorem raright_eq (a : api_Addr) : R04_Right a = some (adrB a) := by
  unfold R04_Right R04_RightF adrB
  cases a.V6
  · cases a.Hi == 0 <;> rfl
  · rfl
theorem rbackend_eq (r : registry_row) : R23_backend (cv r) = some (tld r) := by
  unfold R23_backend R23_backendF tld cv
  cases r.drains <;> cases r.health.Up <;> rfl
theorem at_yes {N : Int} {g : registry_Registry} (h : RI N g) {k : Nat} {r : registry_row} (hk : g.rows[k]? = some r) : R23_Registry_at (cnv g) r.Backend.ID = some (k : Int) := by
  unfold R23_Registry_at R23_Registry_atF
  have hl := (List.getElem?_eq_some_iff.1 hk).1
  have hlen := h.len
  refine iter_eq (fun _ => (k : Int)) (fun (s : Int) => 0 ≤ s ∧ s ≤ k) (fun s => ((k : Int) - s).toNat) ?_ FUEL 0 ⟨by omega, by omega⟩ (by rw [FUEL_eq]; omega)
  rintro s ⟨h0, h1⟩
  obtain ⟨i, rfl⟩ := Int.eq_ofNat_of_zero_le h0
  unfold R23_Registry_at_s1
  have hi : i < g.rows.length := by omega
  rw [cnv_len, cond_p (by omega), oreq_p ⟨by omega, by omega⟩, Int.toNat_natCast, cnv_get, List.getElem?_eq_getElem hi, Option.map_some, Option.bind_some]
  rcases Nat.lt_or_ge i k with hlt | hge
  · right
    have hne : ((cv g.rows[i]).ID == r.Backend.ID) = false := by
      rw [beq_eq_false_iff_ne]
      have := h.lt (List.getElem?_eq_getElem hi) hk hlt
      simp only [cv]; omega
    rw [hne, cond_false, wI64 (by omega) (by omega)]
    exact ⟨_, rfl, ⟨by omega, by omega⟩, by omega, by trivial⟩
  · left
    have e : i = k := by omega
    subst e
    have er : g.rows[i] = r := by rw [List.getElem?_eq_getElem hi] at hk; exact Option.some.inj hk
    rw [er, show ((cv r).ID == r.Backend.ID) = true from by simp [cv], cond_true]
theorem at_no {N : Int} {g : registry_Registry} (h : RI N g) {id : Int} (hn : ∀ (k : Nat) r, g.rows[k]? = some r → r.Backend.ID ≠ id) : R23_Registry_at (cnv g) id = some (-1) := by
  unfold R23_Registry_at R23_Registry_atF
  have hlen := h.len
  refine iter_eq (fun _ => -1) (fun (s : Int) => 0 ≤ s ∧ s ≤ g.rows.length) (fun s => ((g.rows.length : Int) - s).toNat) ?_ FUEL 0 ⟨by omega, by omega⟩ (by rw [FUEL_eq]; omega)
  rintro s ⟨h0, h1⟩
  obtain ⟨i, rfl⟩ := Int.eq_ofNat_of_zero_le h0
  unfold R23_Registry_at_s1
  rw [cnv_len]
  rcases Nat.lt_or_ge i g.rows.length with hi | hi
  · right
    have hne : ((cv g.rows[i]).ID == id) = false := by
      rw [beq_eq_false_iff_ne]
      exact hn i _ (List.getElem?_eq_getElem hi)
    rw [cond_p (by omega), oreq_p ⟨by omega, by omega⟩, Int.toNat_natCast, cnv_get, List.getElem?_eq_getElem hi, Option.map_some, Option.bind_some, hne, cond_false, wI64 (by omega) (by omega)]
    exact ⟨_, rfl, ⟨by omega, by omega⟩, by omega, by trivial⟩
  · left
    rw [cond_n (by omega)]
theorem set_eq {N : Int} {g : registry_Registry} (h : RI N g) (hN : N < 2 ^ 40) {k : Nat} {r : registry_row} (hk : g.rows[k]? = some r) (q : registry_row) : R23_Registry_set (cnv g) (k : Int) (cv q) = some (cnv (updR g k q 1)) := by
  unfold R23_Registry_set R23_Registry_setF
  have hl := (List.getElem?_eq_some_iff.1 hk).1
  have hlen := h.len; have v0 := h.ver0; have v1 := h.ver1
  have := iter_build (fun i => if i = k then cv q else cv (g.rows.getD i r)) g.rows.length (fun st => R23_Registry_set_s1 (cnv g) (k : Int) (cv q) st.1 st.2) (fun o => R23_Registry.mk g.rule o g.last (g.version + 1)) (n := FUEL) ?_ ?_ (by rw [FUEL_eq]; omega)
  · rw [this]
    congr 1
    show _ = R23_Registry.mk _ _ _ _
    congr 1
    apply List.ext_getElem?
    intro i
    simp only [List.getElem?_map, updR, List.getElem?_set]
    rcases Nat.lt_or_ge i g.rows.length with hi | hi
    · rw [List.getElem?_range hi]
      by_cases e : i = k
      · subst e; simp [hi]
      · rw [if_neg (Ne.symm e)]; simp [e, List.getElem?_eq_getElem hi]
    · rw [List.getElem?_eq_none (by simpa using hi), if_neg (by omega), List.getElem?_eq_none (by omega)]; rfl
  · intro i hi out ho
    simp only []
    unfold R23_Registry_set_s1
    rw [cnv_len, cond_p (by omega)]
    by_cases e : i = k
    · subst e
      rw [show ((i : Int) == (i : Int)) = true from by simp, cond_true, oreq_p (by omega), wI64 (by omega) (by omega), if_pos rfl]; rfl
    · rw [show ((i : Int) == (k : Int)) = false from by rw [beq_eq_false_iff_ne]; omega, cond_false, oreq_p ⟨by omega, by omega⟩, Int.toNat_natCast, cnv_get, List.getD_eq_getElem?_getD, List.getElem?_eq_getElem hi, Option.map_some, Option.bind_some, oreq_p (by omega), wI64 (by omega) (by omega), if_neg e]; rfl
  · intro out ho
    simp only []
    unfold R23_Registry_set_s1
    rw [cnv_len, cond_n (by omega)]
    show some (Sum.inr (R23_Registry.mk g.rule out g.last (wI .i64 (g.version + 1)))) = _
    rw [wI64 (by omega) (by omega)]
theorem radd_eq {N : Int} {g : registry_Registry} (h : RI N g) (hN : N < 2 ^ 40) (w : Int) (a : api_Addr) : R23_Registry_Add (cnv g) w a = some ((addG g w a).1, (addG g w a).2.1, cnv (addG g w a).2.2) := by
  unfold R23_Registry_Add R23_Registry_AddF addG
  rw [rweighs_eq, Option.bind_some, raright_eq, Option.bind_some]
  have hl := h.len; have h0 := h.last0; have h1 := h.last1; have v0 := h.ver0; have v1 := h.ver1
  cases hw : weighB w with
  | false => rfl
  | true =>
  cases ha : adrB a with
  | false => rfl
  | true =>
  simp only [Bool.not_true, cond_false, and_self, ↓reduceIte]
  rw [cnv_len]
  by_cases e1 : g.rows.length = 64
  · rw [cond_p (by omega), if_pos (.inl e1)]
  · rw [cond_n (by omega)]
    show cond (decide (g.last ≥ 65535)) _ _ = _
    by_cases e2 : g.last = 65535
    · rw [cond_p (by omega), if_pos (.inr e2)]
    · rw [cond_n (by omega), if_neg (by omega), oreq_p (by omega)]
      show some (wI .i64 (g.last + 1), 0, R23_Registry.mk g.rule (g.rows.map cv ++ [R23_Row.mk (wI .i64 (g.last + 1)) w a false ⟨true, 0⟩]) (wI .i64 (g.last + 1)) (wI .i64 (g.version + 1))) = _
      rw [wI64 (by omega) (by omega), wI64 (n := g.version + 1) (by omega) (by omega)]
      simp [cnv, cv, newRow]
theorem rdrain_yes {N : Int} {g : registry_Registry} (h : RI N g) (hN : N < 2 ^ 40) {k : Nat} {r : registry_row} (hk : g.rows[k]? = some r) (on : Bool) :
    R23_Registry_Drain (cnv g) r.Backend.ID on = some (if r.drains = on then (11, cnv g) else (0, cnv (updR g k ⟨r.Backend, on, r.health⟩ 1))) := by
  unfold R23_Registry_Drain R23_Registry_DrainF
  have hl := (List.getElem?_eq_some_iff.1 hk).1
  rw [at_yes h hk, Option.bind_some, cond_n (by omega), cnv_len, oreq_p ⟨by omega, by omega⟩, Int.toNat_natCast, cnv_get, hk, Option.map_some, Option.bind_some]
  show cond (r.drains == on) _ ((R23_Registry_set (cnv g) (k : Int) (cv ⟨r.Backend, on, r.health⟩)).bind _) = _
  rw [set_eq h hN hk, Option.bind_some]
  by_cases e : r.drains = on
  · rw [show (r.drains == on) = true from by simpa using e, cond_true, if_pos e]
  · rw [show (r.drains == on) = false from by simpa using e, cond_false, if_neg e]
theorem rdrain_no {N : Int} {g : registry_Registry} (h : RI N g) {id : Int} (hn : ∀ (k : Nat) r, g.rows[k]? = some r → r.Backend.ID ≠ id) (on : Bool) : R23_Registry_Drain (cnv g) id on = some (13, cnv g) := by
  unfold R23_Registry_Drain R23_Registry_DrainF
  rw [at_no h hn, Option.bind_some]; rfl
theorem rget_yes {N : Int} {g : registry_Registry} (h : RI N g) {k : Nat} {r : registry_row} (hk : g.rows[k]? = some r) : R23_Registry_Get (cnv g) r.Backend.ID = some (tld r, true) := by
  unfold R23_Registry_Get R23_Registry_GetF
  have hl := (List.getElem?_eq_some_iff.1 hk).1
  rw [at_yes h hk, Option.bind_some, cond_p (by omega), cnv_len, oreq_p ⟨by omega, by omega⟩, Int.toNat_natCast, cnv_get, hk, Option.map_some, Option.bind_some, rbackend_eq, Option.bind_some]
theorem rget_no {N : Int} {g : registry_Registry} (h : RI N g) {id : Int} (hn : ∀ (k : Nat) r, g.rows[k]? = some r → r.Backend.ID ≠ id) : R23_Registry_Get (cnv g) id = some (if 1 ≤ id ∧ id ≤ g.last then (goneB id, true) else (noB, false)) := by
  unfold R23_Registry_Get R23_Registry_GetF
  rw [at_no h hn, Option.bind_some, cond_n (by omega)]
  show cond _ (cond (decide (id ≤ g.last)) _ _) _ = _
  by_cases h1 : id ≥ 1
  · rw [cond_p h1]
    by_cases h2 : id ≤ g.last
    · rw [cond_p h2, if_pos (by omega)]; rfl
    · rw [cond_n h2, if_neg (by omega)]; rfl
  · rw [cond_n h1, if_neg (by omega)]; rfl
theorem rremove_yes {N : Int} {g : registry_Registry} (h : RI N g) (hN : N < 2 ^ 40) {k : Nat} {r : registry_row} (hk : g.rows[k]? = some r) : R23_Registry_Remove (cnv g) r.Backend.ID = some (0, cnv (remG g k)) := by
  unfold R23_Registry_Remove R23_Registry_RemoveF
  have hl := (List.getElem?_eq_some_iff.1 hk).1
  have v0 := h.ver0; have v1 := h.ver1; have hlen := h.len
  have hc := cnv_len g
  rw [at_yes h hk, Option.bind_some, cond_n (by omega), wI64 (n := (k : Int) + 1) (by omega) (by omega)]
  rw [oreq_p (by omega), oreq_p (by omega), oreq_p (by omega), oreq_p (by omega), oreq_p (by omega), oreq_p (by rw [List.length_take]; omega)]
  show some ((0 : Int), R23_Registry.mk g.rule _ g.last (wI .i64 (g.version + 1))) = _
  rw [wI64 (by omega) (by omega)]
  have : (cnv g).L.take (Int.toNat k) ++ ((cnv g).L.drop (Int.toNat ((k : Int) + 1))).take ((cnv g).L.length - (Int.toNat ((k : Int) + 1))) = (g.rows.eraseIdx k).map cv := by
    rw [show Int.toNat k = k from Int.toNat_natCast _, show Int.toNat ((k : Int) + 1) = k + 1 by omega, List.take_of_length_le (l := (cnv g).L.drop (k + 1)) (by rw [List.length_drop]; exact Nat.le_refl _), List.eraseIdx_eq_take_drop_succ, List.map_append, List.map_take, List.map_drop]; rfl
  rw [this]; rfl
theorem rremove_no {N : Int} {g : registry_Registry} (h : RI N g) {id : Int} (hn : ∀ (k : Nat) r, g.rows[k]? = some r → r.Backend.ID ≠ id) : R23_Registry_Remove (cnv g) id = some (13, cnv g) := by
  unfold R23_Registry_Remove R23_Registry_RemoveF
  rw [at_no h hn, Option.bind_some]; rfl
theorem rid_dec (g : registry_Registry) (id : Int) : (∃ (k : Nat) (r : registry_row), g.rows[k]? = some r ∧ r.Backend.ID = id) ∨ ∀ (k : Nat) r, g.rows[k]? = some r → r.Backend.ID ≠ id := by
  by_cases h : ∃ (k : Nat) (r : registry_row), g.rows[k]? = some r ∧ r.Backend.ID = id
  · exact .inl h
  · exact .inr fun k r hk he => h ⟨k, r, hk, he⟩
theorem gets_eq {N : Int} {g : registry_Registry} (h : RI N g) (id : Int) : ∃ b o, registry_Registry_Get g id = some (b, o) ∧ R23_Registry_Get (cnv g) id = some (b, o) := by
  rcases rid_dec g id with ⟨k, r, hk, rfl⟩ | hn
  · exact ⟨_, _, get_yes h hk, rget_yes h hk⟩
  · exact ⟨_, _, by rw [get_no h hn], by rw [rget_no h hn]⟩
end Go.Vm.Code
namespace Go.Vm
open Go
def be (n : Nat) : Nat → List UInt8
  | 0 => []
  | r + 1 => UInt8.ofNat (n / 256 ^ r) :: be n r
def valL (l : List UInt8) : Nat := l.foldl (fun n b => n * 256 + b.toNat) 0
@[simp] theorem be_len (n : Nat) : ∀ k, (be n k).length = k
  | 0 => rfl
  | k + 1 => by simp [be, be_len n k]
theorem be_snoc (n : Nat) : ∀ k, be n (k + 1) = be (n / 256) k ++ [UInt8.ofNat n]
  | 0 => by simp [be]
  | k + 1 => by
    rw [be, be_snoc n k, be, Nat.div_div_eq_div_mul, Nat.pow_succ, Nat.mul_comm 256]; rfl
theorem be_mod (n : Nat) : ∀ k, be (n % 256 ^ k) k = be n k
  | 0 => rfl
  | k + 1 => by
    rw [be_snoc, be_snoc, Nat.pow_succ, Nat.mul_comm, Nat.mod_mul_right_div_self, be_mod (n / 256) k]
    congr 2
    apply UInt8.toNat_inj.1
    simp only [UInt8.toNat_ofNat']
    rw [Nat.mod_mul_right_mod]
theorem val_foldl (l : List UInt8) : ∀ n : Nat, l.foldl (fun n b => n * 256 + b.toNat) n = n * 256 ^ l.length + valL l := by
  induction l with
  | nil => intro n; simp [valL]
  | cons b l ih =>
    intro n
    rw [valL, List.foldl_cons, ih, List.foldl_cons, ih, List.length_cons, Nat.pow_succ]
    rw [Nat.zero_mul, Nat.zero_add, Nat.add_mul, Nat.mul_assoc, Nat.mul_comm (256 ^ _) 256, Nat.add_assoc]
@[simp] theorem val_nil : valL [] = 0 := rfl
theorem val_cons (b : UInt8) (l : List UInt8) : valL (b :: l) = b.toNat * 256 ^ l.length + valL l := by
  rw [valL, List.foldl_cons, val_foldl]; simp
theorem val_append (l m : List UInt8) : valL (l ++ m) = valL l * 256 ^ m.length + valL m := by
  rw [valL, List.foldl_append, val_foldl]; rfl
theorem val_snoc (l : List UInt8) (b : UInt8) : valL (l ++ [b]) = valL l * 256 + b.toNat := by
  rw [val_append]; simp [val_cons]
theorem val_lt : ∀ l : List UInt8, valL l < 256 ^ l.length
  | [] => by simp
  | b :: l => by
    have h := val_lt l
    have hb := b.toNat_lt
    rw [val_cons, List.length_cons, Nat.pow_succ]
    have : b.toNat * 256 ^ l.length + 256 ^ l.length ≤ 256 * 256 ^ l.length := by
      rw [← Nat.succ_mul]; exact Nat.mul_le_mul_right _ (by omega)
    rw [Nat.mul_comm (256 ^ l.length)]; omega
theorem val_be (n : Nat) : ∀ k, valL (be n k) = n % 256 ^ k
  | 0 => by simp [be, Nat.mod_one]
  | k + 1 => by
    have e : n % 256 ^ (k + 1) = n % 256 + 256 * (n / 256 % 256 ^ k) := by rw [Nat.pow_succ', Nat.mod_mul]
    rw [be_snoc, val_snoc, val_be (n / 256) k, UInt8.toNat_ofNat', e]
    generalize n / 256 % 256 ^ k = x
    omega
theorem be_val : ∀ l : List UInt8, be (valL l) l.length = l
  | [] => rfl
  | b :: l => by
    have h := val_lt l
    rw [List.length_cons, be]
    have e1 : valL (b :: l) / 256 ^ l.length = b.toNat := by
      rw [val_cons, Nat.mul_comm, Nat.mul_add_div (Nat.pow_pos (by decide)), Nat.div_eq_of_lt h, Nat.add_zero]
    have e2 : be (valL (b :: l)) l.length = be (valL l) l.length := by
      rw [← be_mod (valL (b :: l)), val_cons, Nat.mul_add_mod', be_mod]
    rw [e1, e2, be_val l]
    simp
theorem be_val' {l : List UInt8} {k : Nat} (h : l.length = k) : be (valL l) k = l := by subst h; exact be_val l
theorem be_of {l : List UInt8} {n k : Nat} (h : l.length = k) (hv : valL l = n) : be n k = l := by subst hv; exact be_val' h
end Go.Vm
namespace Go.Vm.Code
open Go Go.Vm Go.Proofs
set_option maxRecDepth 100000
set_option maxHeartbeats 4000000
set_option linter.unusedVariables false
def octet_Put_s1 (n : Int) (k : Int) (t17 : Int) (b : List Int) : Option (Sum (Int × (List Int)) (List UInt8)) :=
  cond (decide (t17 < (k.toNat : Int)))
    (
    let t := wI .i64 (8 * (wI .i64 ((wI .i64 (k - 1)) - t17)))
    oreq (decide (0 ≤ t)) <|
    oreq (decide ((0 : Int) ≤ t17 ∧ t17 < (k.toNat : Int))) <|
    oreq (decide (t17.toNat < b.length)) <|
    let row := b.set t17.toNat (wI .u8 (n.fdiv (2 ^ (min t.toNat 64))))
    some (.inl (wI .i64 (t17 + 1), row)))
    (
    oreq (decide (k.toNat ≤ b.length)) <|
    some (.inr (iB (b.take k.toNat))))
def octet_PutF (n : Int) (k : Int) : Option (List UInt8) :=
  cond (decide (k < 1))
    (
    some ([]))
    (
    cond (decide (k > 8))
      (
      some ([]))
      (
      oreq (decide (0 ≤ k ∧ k ≤ k ∧ k < 2 ^ 63 ∧ (1 : Int) * k ≤ 2 ^ 48)) <|
      iter (fun st => octet_Put_s1 n k st.1 st.2) FUEL (0, List.replicate k.toNat (0))))
def rx109 (x : List UInt8) : SRes := ⟨.string ⟨⟨x⟩⟩, [], []⟩
def r109 (g : Int → Int → Option (List UInt8)) : Dec := dV (asI .u64) fun (y0 : Int) => dV (asI .i64) fun (y1 : Int) => dEnd (ofG (g y0 y1) rx109)
theorem r109_c {g : Int → Int → Option (List UInt8)} {y0 : Int} {y1 : Int} {x : List UInt8} (hx : g y0 y1 = some x) : r109 g [.int .u64 y0, .int .i64 y1] [] = some (rx109 x) := (dV_eq (asI_c _)).trans ((dV_eq (asI_c _)).trans (ofG_eq hx))
def s109 (g : Int → Int → Option (List UInt8)) : Summ := ⟨[.v, .v], r109 g⟩
theorem r109_eq {g : Int → Int → Option (List UInt8)} {y0 : Int} {y1 : Int} {x : List UInt8} (hx : g y0 y1 = some x) : (s109 g).run [.int .u64 y0, .int .i64 y1] [] = some (rx109 x) := r109_c hx
abbrev sums109 : List (Nat × Summ) := []
def head109_1 (n : Int) (k : Int) (t17 : Int) (b : List Int) : VM :=
  ⟨⟨109, 34, [(0, .int .u64 n), (1, .int .i64 k), (5, .slice (some ⟨0, 0, none⟩) k.toNat 1), (16, .int .i64 (k.toNat : Int)), (17, .int .i64 t17)], [.code k109_17, .inLoop k109_17, .inBlock 0, .code k109_22], [], false, none⟩, [], [(0, .row true (vI .u8 b))], 1⟩
theorem loop109_1 (hS : SumsOK Try.prog (aget (sums109))) (n : Int) (k : Int) (res : List UInt8) : ∀ fuel (st : Int × (List Int)) (o : List UInt8), iter (fun st => octet_Put_s1 n k st.1 st.2) fuel st = some o → (o = res) →
    Leads Try.prog 109 0 (head109_1 n k st.1 st.2) (fun v H _ => Res 0 (rx109 res) v H) := by
  intro fuel st o h hc
  refine iter_leads (head := fun st => head109_1 n k st.1 st.2) (C := fun o => (o = res)) ?_ fuel st o h hc
  clear h hc o st fuel
  intro st o h hc
  obtain ⟨t17, b⟩ := st
  replace h : octet_Put_s1 n k t17 b = some o := h
  show Leads Try.prog 109 0 (head109_1 n k t17 b) (fun v H _ => Res 0 (rx109 res) v H)
  unfold octet_Put_s1 at h
  refine ev_ok tab_ok hS true 3000 ?_
  conv => whnf
  refine br.h2 h ?_ ?_ ?_
  · rfl
  · clear h; intro hb h; conv => whnf
    replace h := oreq.elim h; obtain ⟨hb, h⟩ := h
    refine req.intro (by (first | rfl | (simp [wI, vI, vB, vS, bI, oneC, addrBlk, cellsL, Value.cells] at *; omega) | (simp [vI, vB, vS, bI, oneC, addrBlk, cellsL, Value.cells] at *; omega) | (simp [vI, vB, vS, bI, oneC, addrBlk, cellsL, Value.cells] at *; done))) ?_
    conv => whnf
    refine pk_b2s ?_
    conv => whnf
    all_goals (cases h; cases hc; exact Res.z rfl rfl rfl)
  clear h; intro hb h; conv => whnf
  let t : Int := wI .i64 (8 * (wI .i64 ((wI .i64 (k - 1)) - t17)))
  replace h := oreq.elim h; obtain ⟨hb, h⟩ := h
  first | (refine req.intro hb ?_; conv => whnf) | skip
  replace h := oreq.elim h; obtain ⟨hb, h⟩ := h
  first | (refine req.intro hb ?_; conv => whnf) | skip
  replace h := oreq.elim h; obtain ⟨hb, h⟩ := h
  refine st_I hb (by first | rfl | (rw [Nat.zero_add, Nat.mul_one]; try rfl; done) | omega) ?_
  conv => whnf
  let row : List Int := b.set t17.toNat (wI .u8 (n.fdiv (2 ^ (min t.toNat 64))))
  cases h; simp only [Sum.elim_inl, head109_1] at hc
  exact lrA1 hc [(0, 0)] rfl
theorem leads109 (hS : SumsOK Try.prog (aget (sums109))) (n : Int) (k : Int) (res : List UInt8) (h : octet_PutF n k = some res) :
    Leads Try.prog 109 0 ⟨⟨109, 34, [(0, .int .u64 n), (1, .int .i64 k)], [.code k109_26], [], false, none⟩, [], [], 0⟩ (fun v H _ => Res 0 (rx109 res) v H) := by
  unfold octet_PutF at h
  refine ev_ok tab_ok hS true 3000 ?_
  conv => whnf
  refine br.h h ?_ ?_ ?_
  · rfl
  · clear h; intro hb h; conv => whnf
    all_goals (cases h; exact Res.z rfl rfl rfl)
  clear h; intro hb h; conv => whnf
  refine br.h h ?_ ?_ ?_
  · rfl
  · clear h; intro hb h; conv => whnf
    all_goals (cases h; exact Res.z rfl rfl rfl)
  clear h; intro hb h; conv => whnf
  replace h := oreq.elim h; obtain ⟨hb, h⟩ := h
  first | (refine req.intro hb ?_; conv => whnf) | skip
  refine pk_mkI ?_
  conv => whnf
  have hl := loop109_1 hS _ _ res _ _ _ h rfl; simp only [head109_1] at hl
  exact lrA1 hl [(0, 0)] rfl
theorem ok109 (hS : SumsOK Try.prog (aget (sums109))) : SumOK Try.prog 109 (s109 (octet_PutF)) := by
  refine SumOK.of_leads tab_ok (fun ar os r ha hr => ?_) ⟨Try.f109, rfl, by decide, rfl⟩
  replace hr : r109 (octet_PutF) ar (conts os) = some r := hr
  unfold r109 at hr
  generalize hc : conts os = C at hr
  replace hr := dV.elim hr; obtain ⟨v0, l1, y0, rfl, e0, hr⟩ := hr; obtain rfl := asI_eq _ _ _ e0
  replace hr := dV.elim hr; obtain ⟨v1, l2, y1, rfl, e1, hr⟩ := hr; obtain rfl := asI_eq _ _ _ e1
  replace hr := dFin hr; obtain ⟨rfl, rfl, x, h, rfl⟩ := hr
  obtain rfl := kinds_nil hc
  exact ⟨_, rfl, leads109 hS _ _ x h⟩
def octet_Put : Int → Int → Option (List UInt8) := octet_PutF
theorem lift109 : SumOK Try.prog 109 (s109 octet_Put) := ok109 (SumsOK.of_tab trivial)
def octet_Get_s1 (t1 : List UInt8) (n : Int) (t37 : Int) : Option (Sum (Int × Int) (Int × Bool)) :=
  cond (decide (t37 < (t1.length : Int)))
    (
    oreq (decide ((0 : Int) ≤ t37 ∧ t37 < (t1.length : Int))) <|
    ((bI t1)[t37.toNat]?).bind fun (e : Int) =>
    let t2 := iorI .u64 (wI .u64 (n * 2 ^ 8)) (wI .u64 e)
    some (.inl (t2, wI .i64 (t37 + 1))))
    (
    some (.inr ((n, true))))
def octet_GetF (s : List UInt8) (ata1 : Int) (k : Int) : Option (Int × Bool) :=
  cond (decide (k < 1))
    (
    some ((0, false)))
    (
    cond (decide (k > 8))
      (
      some ((0, false)))
      (
      cond (decide (ata1 < 0))
        (
        some ((0, false)))
        (
        let t := decide ((wI .i64 ((s.length : Int) - k)) < ata1)
        cond (t)
          (
          some ((0, false)))
          (
          oreq (decide ((0 : Int) ≤ (wI .i64 (ata1 + k)) ∧ (wI .i64 (ata1 + k)) ≤ (s.length : Int) ∧ (0 : Int) ≤ ata1 ∧ ata1 ≤ ((wI .i64 (ata1 + k)).toNat : Int))) <|
          let t1 := (s.drop ata1.toNat).take ((wI .i64 (ata1 + k)).toNat - ata1.toNat)
          iter (fun st => octet_Get_s1 t1 st.1 st.2) FUEL (0, 0)))))
def rx99 (x : Int × Bool) : SRes := ⟨.tuple ⟨[.int .u64 x.1, .bool x.2]⟩, [], []⟩
def r99 (g : (List UInt8) → Int → Int → Option (Int × Bool)) : Dec := dV asS fun (y0 : List UInt8) => dV (asI .i64) fun (y1 : Int) => dV (asI .i64) fun (y2 : Int) => dEnd (ofG (g y0 y1 y2) rx99)
theorem r99_c {g : (List UInt8) → Int → Int → Option (Int × Bool)} {y0 : List UInt8} {y1 : Int} {y2 : Int} {x : Int × Bool} (hx : g y0 y1 y2 = some x) : r99 g [.string ⟨⟨y0⟩⟩, .int .i64 y1, .int .i64 y2] [] = some (rx99 x) := (dV_eq (asS_c)).trans ((dV_eq (asI_c _)).trans ((dV_eq (asI_c _)).trans (ofG_eq hx)))
def s99 (g : (List UInt8) → Int → Int → Option (Int × Bool)) : Summ := ⟨[.v, .v, .v], r99 g⟩
theorem r99_eq {g : (List UInt8) → Int → Int → Option (Int × Bool)} {y0 : List UInt8} {y1 : Int} {y2 : Int} {x : Int × Bool} (hx : g y0 y1 y2 = some x) : (s99 g).run [.string ⟨⟨y0⟩⟩, .int .i64 y1, .int .i64 y2] [] = some (rx99 x) := r99_c hx
abbrev sums99 : List (Nat × Summ) := []
def head99_1 (t1 : List UInt8) (n : Int) (t37 : Int) : VM :=
  ⟨⟨99, 48, [(8, .int .u64 n), (35, .slice (some ⟨0, 0, none⟩) t1.length 1), (36, .int .i64 (t1.length : Int)), (37, .int .i64 t37)], [.code k99_17, .inLoop k99_17, .inBlock 0, .code k99_22], [], false, none⟩, [], [(0, .row true (vI .u8 (bI t1)))], 1⟩
theorem loop99_1 (hS : SumsOK Try.prog (aget (sums99))) (t1 : List UInt8) (res : Int × Bool) : ∀ fuel (st : Int × Int) (o : Int × Bool), iter (fun st => octet_Get_s1 t1 st.1 st.2) fuel st = some o → (o = res) →
    Leads Try.prog 99 0 (head99_1 t1 st.1 st.2) (fun v H _ => Res 0 (rx99 res) v H) := by
  intro fuel st o h hc
  refine iter_leads (head := fun st => head99_1 t1 st.1 st.2) (C := fun o => (o = res)) ?_ fuel st o h hc
  clear h hc o st fuel
  intro st o h hc
  obtain ⟨n, t37⟩ := st
  replace h : octet_Get_s1 t1 n t37 = some o := h
  show Leads Try.prog 99 0 (head99_1 t1 n t37) (fun v H _ => Res 0 (rx99 res) v H)
  unfold octet_Get_s1 at h
  refine ev_ok tab_ok hS true 3000 ?_
  conv => whnf
  refine br.h2 h ?_ ?_ ?_
  · rfl
  · clear h; intro hb h; conv => whnf
    all_goals (cases h; cases hc; exact Res.z rfl rfl rfl)
  clear h; intro hb h; conv => whnf
  replace h := oreq.elim h; obtain ⟨hb, h⟩ := h
  first | (refine req.intro hb ?_; conv => whnf) | skip
  replace h := obind.elim h; obtain ⟨e, hy, h⟩ := h
  refine rd.I hy (by first | rfl | (rw [Nat.zero_add, Nat.mul_one]; try rfl; done) | omega) ?_
  conv => whnf
  let t2 : Int := iorI .u64 (wI .u64 (n * 2 ^ 8)) (wI .u64 e)
  cases h; simp only [Sum.elim_inl, head99_1] at hc
  exact lrA1 hc [(0, 0)] rfl
theorem leads99 (hS : SumsOK Try.prog (aget (sums99))) (s : List UInt8) (ata1 : Int) (k : Int) (res : Int × Bool) (h : octet_GetF s ata1 k = some res) :
    Leads Try.prog 99 0 ⟨⟨99, 48, [(0, .string ⟨⟨s⟩⟩), (1, .int .i64 ata1), (2, .int .i64 k)], [.code k99_26], [], false, none⟩, [], [], 0⟩ (fun v H _ => Res 0 (rx99 res) v H) := by
  unfold octet_GetF at h
  refine ev_ok tab_ok hS true 3000 ?_
  conv => whnf
  refine br.h h ?_ ?_ ?_
  · rfl
  · clear h; intro hb h; conv => whnf
    all_goals (cases h; exact Res.z rfl rfl rfl)
  clear h; intro hb h; conv => whnf
  refine br.h h ?_ ?_ ?_
  · rfl
  · clear h; intro hb h; conv => whnf
    all_goals (cases h; exact Res.z rfl rfl rfl)
  clear h; intro hb h; conv => whnf
  refine br.h h ?_ ?_ ?_
  · rfl
  · clear h; intro hb h; conv => whnf
    all_goals (cases h; exact Res.z rfl rfl rfl)
  clear h; intro hb h; conv => whnf
  let t : Bool := decide ((wI .i64 ((s.length : Int) - k)) < ata1)
  refine br.h h ?_ ?_ ?_
  · rfl
  · clear h; intro hb h; conv => whnf
    all_goals (cases h; exact Res.z rfl rfl rfl)
  clear h; intro hb h; conv => whnf
  replace h := oreq.elim h; obtain ⟨hb, h⟩ := h
  first | (refine req.intro hb ?_; conv => whnf) | skip
  let t1 : List UInt8 := (s.drop ata1.toNat).take ((wI .i64 (ata1 + k)).toNat - ata1.toNat)
  refine pk_s2b ?_
  conv => whnf
  have hl := loop99_1 hS _ res _ _ _ h rfl; simp only [head99_1] at hl
  exact lrA1 hl [(0, 0)] rfl
theorem ok99 (hS : SumsOK Try.prog (aget (sums99))) : SumOK Try.prog 99 (s99 (octet_GetF)) := by
  refine SumOK.of_leads tab_ok (fun ar os r ha hr => ?_) ⟨Try.f99, rfl, by decide, rfl⟩
  replace hr : r99 (octet_GetF) ar (conts os) = some r := hr
  unfold r99 at hr
  generalize hc : conts os = C at hr
  replace hr := dV.elim hr; obtain ⟨v0, l1, y0, rfl, e0, hr⟩ := hr; obtain rfl := asS_eq _ _ e0
  replace hr := dV.elim hr; obtain ⟨v1, l2, y1, rfl, e1, hr⟩ := hr; obtain rfl := asI_eq _ _ _ e1
  replace hr := dV.elim hr; obtain ⟨v2, l3, y2, rfl, e2, hr⟩ := hr; obtain rfl := asI_eq _ _ _ e2
  replace hr := dFin hr; obtain ⟨rfl, rfl, x, h, rfl⟩ := hr
  obtain rfl := kinds_nil hc
  exact ⟨_, rfl, leads99 hS _ _ _ x h⟩
def octet_Get : (List UInt8) → Int → Int → Option (Int × Bool) := octet_GetF
theorem lift99 : SumOK Try.prog 99 (s99 octet_Get) := ok99 (SumsOK.of_tab trivial)
def R02_Put_s1 (k : Int) (n1 : Int) (s : List UInt8) (i : Int) : Option (Sum (Int × (List UInt8) × Int) (List UInt8)) :=
  cond (decide (i < k))
    (
    cond (decide (k ≤ 8))
      (
      let t := [UInt8.ofNat (wI .u8 (n1.tmod 256)).toNat]
      oreq (decide (t.length + s.length < 2 ^ 63)) <|
      some (.inl (wI .u64 (n1.tdiv 256), t ++ s, wI .i64 (i + 1))))
      (
      some (.inr (s))))
    (
    some (.inr (s)))
def R02_PutF (n : Int) (k : Int) : Option (List UInt8) :=
  iter (fun st => R02_Put_s1 k st.1 st.2.1 st.2.2) FUEL (n, [], 0)
def rx104 (x : List UInt8) : SRes := ⟨.string ⟨⟨x⟩⟩, [], []⟩
def r104 (g : Int → Int → Option (List UInt8)) : Dec := dV (asI .u64) fun (y0 : Int) => dV (asI .i64) fun (y1 : Int) => dEnd (ofG (g y0 y1) rx104)
theorem r104_c {g : Int → Int → Option (List UInt8)} {y0 : Int} {y1 : Int} {x : List UInt8} (hx : g y0 y1 = some x) : r104 g [.int .u64 y0, .int .i64 y1] [] = some (rx104 x) := (dV_eq (asI_c _)).trans ((dV_eq (asI_c _)).trans (ofG_eq hx))
def s104 (g : Int → Int → Option (List UInt8)) : Summ := ⟨[.v, .v], r104 g⟩
theorem r104_eq {g : Int → Int → Option (List UInt8)} {y0 : Int} {y1 : Int} {x : List UInt8} (hx : g y0 y1 = some x) : (s104 g).run [.int .u64 y0, .int .i64 y1] [] = some (rx104 x) := r104_c hx
abbrev sums104 : List (Nat × Summ) := []
def head104_1 (k : Int) (n1 : Int) (s : List UInt8) (i : Int) : VM :=
  ⟨⟨104, 26, [(0, .int .u64 n1), (1, .int .i64 k), (5, .string ⟨⟨s⟩⟩), (6, .int .i64 i)], [.code k104_12, .inLoop k104_12, .inBlock 0, .code k104_17], [], false, none⟩, [], [], 0⟩
theorem loop104_1 (hS : SumsOK Try.prog (aget (sums104))) (k : Int) (res : List UInt8) : ∀ fuel (st : Int × (List UInt8) × Int) (o : List UInt8), iter (fun st => R02_Put_s1 k st.1 st.2.1 st.2.2) fuel st = some o → (o = res) →
    Leads Try.prog 104 0 (head104_1 k st.1 st.2.1 st.2.2) (fun v H _ => Res 0 (rx104 res) v H) := by
  intro fuel st o h hc
  refine iter_leads (head := fun st => head104_1 k st.1 st.2.1 st.2.2) (C := fun o => (o = res)) ?_ fuel st o h hc
  clear h hc o st fuel
  intro st o h hc
  obtain ⟨n1, s, i⟩ := st
  replace h : R02_Put_s1 k n1 s i = some o := h
  show Leads Try.prog 104 0 (head104_1 k n1 s i) (fun v H _ => Res 0 (rx104 res) v H)
  unfold R02_Put_s1 at h
  refine ev_ok tab_ok hS true 3000 ?_
  conv => whnf
  refine br.h2 h ?_ ?_ ?_
  · rfl
  · clear h; intro hb h; conv => whnf
    all_goals (cases h; cases hc; exact Res.z rfl rfl rfl)
  clear h; intro hb h; conv => whnf
  refine br.h2 h ?_ ?_ ?_
  · rfl
  · clear h; intro hb h; conv => whnf
    all_goals (cases h; cases hc; exact Res.z rfl rfl rfl)
  clear h; intro hb h; conv => whnf
  refine pk_b2sL rfl ?_
  conv => whnf
  let t : List UInt8 := [UInt8.ofNat (wI .u8 (n1.tmod 256)).toNat]
  replace h := oreq.elim h; obtain ⟨hb, h⟩ := h
  first | (refine req.intro hb ?_; conv => whnf) | skip
  cases h; simp only [Sum.elim_inl, head104_1] at hc
  exact lrA1 hc [] rfl
theorem leads104 (hS : SumsOK Try.prog (aget (sums104))) (n : Int) (k : Int) (res : List UInt8) (h : R02_PutF n k = some res) :
    Leads Try.prog 104 0 ⟨⟨104, 26, [(0, .int .u64 n), (1, .int .i64 k)], [.code k104_20], [], false, none⟩, [], [], 0⟩ (fun v H _ => Res 0 (rx104 res) v H) := by
  unfold R02_PutF at h
  refine ev_ok tab_ok hS true 3000 ?_
  conv => whnf
  have hl := loop104_1 hS _ res _ _ _ h rfl; simp only [head104_1] at hl
  exact lrA1 hl [] rfl
theorem ok104 (hS : SumsOK Try.prog (aget (sums104))) : SumOK Try.prog 104 (s104 (R02_PutF)) := by
  refine SumOK.of_leads tab_ok (fun ar os r ha hr => ?_) ⟨Try.f104, rfl, by decide, rfl⟩
  replace hr : r104 (R02_PutF) ar (conts os) = some r := hr
  unfold r104 at hr
  generalize hc : conts os = C at hr
  replace hr := dV.elim hr; obtain ⟨v0, l1, y0, rfl, e0, hr⟩ := hr; obtain rfl := asI_eq _ _ _ e0
  replace hr := dV.elim hr; obtain ⟨v1, l2, y1, rfl, e1, hr⟩ := hr; obtain rfl := asI_eq _ _ _ e1
  replace hr := dFin hr; obtain ⟨rfl, rfl, x, h, rfl⟩ := hr
  obtain rfl := kinds_nil hc
  exact ⟨_, rfl, leads104 hS _ _ x h⟩
def R02_Put : Int → Int → Option (List UInt8) := R02_PutF
theorem lift104 : SumOK Try.prog 104 (s104 R02_Put) := ok104 (SumsOK.of_tab trivial)
def R02_Get_s1 (s : List UInt8) (ata1 : Int) (k : Int) (n : Int) (i : Int) : Option (Sum (Int × Int) (Int × Bool)) :=
  cond (decide (i < k))
    (
    oreq (decide (0 ≤ (wI .i64 (ata1 + i)))) <|
    (s[(wI .i64 (ata1 + i)).toNat]?).bind fun (b : UInt8) =>
    let t1 := wI .u64 ((wI .u64 (n * 256)) + (wI .u64 (b.toNat : Int)))
    some (.inl (t1, wI .i64 (i + 1))))
    (
    some (.inr ((n, true))))
def R02_GetF (s : List UInt8) (ata1 : Int) (k : Int) : Option (Int × Bool) :=
  cond (decide (k < 1))
    (
    some ((0, false)))
    (
    cond (decide (k > 8))
      (
      some ((0, false)))
      (
      cond (decide (ata1 < 0))
        (
        some ((0, false)))
        (
        cond (decide (ata1 > (s.length : Int)))
          (
          some ((0, false)))
          (
          let t := decide (k > (wI .i64 ((s.length : Int) - ata1)))
          cond (t)
            (
            some ((0, false)))
            (
            iter (fun st => R02_Get_s1 s ata1 k st.1 st.2) FUEL (0, 0))))))
def rx105 (x : Int × Bool) : SRes := ⟨.tuple ⟨[.int .u64 x.1, .bool x.2]⟩, [], []⟩
def r105 (g : (List UInt8) → Int → Int → Option (Int × Bool)) : Dec := dV asS fun (y0 : List UInt8) => dV (asI .i64) fun (y1 : Int) => dV (asI .i64) fun (y2 : Int) => dEnd (ofG (g y0 y1 y2) rx105)
theorem r105_c {g : (List UInt8) → Int → Int → Option (Int × Bool)} {y0 : List UInt8} {y1 : Int} {y2 : Int} {x : Int × Bool} (hx : g y0 y1 y2 = some x) : r105 g [.string ⟨⟨y0⟩⟩, .int .i64 y1, .int .i64 y2] [] = some (rx105 x) := (dV_eq (asS_c)).trans ((dV_eq (asI_c _)).trans ((dV_eq (asI_c _)).trans (ofG_eq hx)))
def s105 (g : (List UInt8) → Int → Int → Option (Int × Bool)) : Summ := ⟨[.v, .v, .v], r105 g⟩
theorem r105_eq {g : (List UInt8) → Int → Int → Option (Int × Bool)} {y0 : List UInt8} {y1 : Int} {y2 : Int} {x : Int × Bool} (hx : g y0 y1 y2 = some x) : (s105 g).run [.string ⟨⟨y0⟩⟩, .int .i64 y1, .int .i64 y2] [] = some (rx105 x) := r105_c hx
abbrev sums105 : List (Nat × Summ) := []
def head105_1 (s : List UInt8) (ata1 : Int) (k : Int) (n : Int) (i : Int) : VM :=
  ⟨⟨105, 49, [(0, .string ⟨⟨s⟩⟩), (1, .int .i64 ata1), (2, .int .i64 k), (8, .int .u64 n), (9, .int .i64 i)], [.code k105_15, .inLoop k105_15, .inBlock 0, .code k105_20], [], false, none⟩, [], [], 0⟩
theorem loop105_1 (hS : SumsOK Try.prog (aget (sums105))) (s : List UInt8) (ata1 : Int) (k : Int) (res : Int × Bool) : ∀ fuel (st : Int × Int) (o : Int × Bool), iter (fun st => R02_Get_s1 s ata1 k st.1 st.2) fuel st = some o → (o = res) →
    Leads Try.prog 105 0 (head105_1 s ata1 k st.1 st.2) (fun v H _ => Res 0 (rx105 res) v H) := by
  intro fuel st o h hc
  refine iter_leads (head := fun st => head105_1 s ata1 k st.1 st.2) (C := fun o => (o = res)) ?_ fuel st o h hc
  clear h hc o st fuel
  intro st o h hc
  obtain ⟨n, i⟩ := st
  replace h : R02_Get_s1 s ata1 k n i = some o := h
  show Leads Try.prog 105 0 (head105_1 s ata1 k n i) (fun v H _ => Res 0 (rx105 res) v H)
  unfold R02_Get_s1 at h
  refine ev_ok tab_ok hS true 3000 ?_
  conv => whnf
  refine br.h2 h ?_ ?_ ?_
  · rfl
  · clear h; intro hb h; conv => whnf
    all_goals (cases h; cases hc; exact Res.z rfl rfl rfl)
  clear h; intro hb h; conv => whnf
  replace h := oreq.elim h; obtain ⟨hb, h⟩ := h
  first | (refine req.intro hb ?_; conv => whnf) | skip
  replace h := obind.elim h; obtain ⟨b, hy, h⟩ := h
  refine rdS.intro hy ?_
  conv => whnf
  let t1 : Int := wI .u64 ((wI .u64 (n * 256)) + (wI .u64 (b.toNat : Int)))
  cases h; simp only [Sum.elim_inl, head105_1] at hc
  exact lrA1 hc [] rfl
theorem leads105 (hS : SumsOK Try.prog (aget (sums105))) (s : List UInt8) (ata1 : Int) (k : Int) (res : Int × Bool) (h : R02_GetF s ata1 k = some res) :
    Leads Try.prog 105 0 ⟨⟨105, 49, [(0, .string ⟨⟨s⟩⟩), (1, .int .i64 ata1), (2, .int .i64 k)], [.code k105_24], [], false, none⟩, [], [], 0⟩ (fun v H _ => Res 0 (rx105 res) v H) := by
  unfold R02_GetF at h
  refine ev_ok tab_ok hS true 3000 ?_
  conv => whnf
  refine br.h h ?_ ?_ ?_
  · rfl
  · clear h; intro hb h; conv => whnf
    all_goals (cases h; exact Res.z rfl rfl rfl)
  clear h; intro hb h; conv => whnf
  refine br.h h ?_ ?_ ?_
  · rfl
  · clear h; intro hb h; conv => whnf
    all_goals (cases h; exact Res.z rfl rfl rfl)
  clear h; intro hb h; conv => whnf
  refine br.h h ?_ ?_ ?_
  · rfl
  · clear h; intro hb h; conv => whnf
    all_goals (cases h; exact Res.z rfl rfl rfl)
  clear h; intro hb h; conv => whnf
  refine br.h h ?_ ?_ ?_
  · rfl
  · clear h; intro hb h; conv => whnf
    all_goals (cases h; exact Res.z rfl rfl rfl)
  clear h; intro hb h; conv => whnf
  let t : Bool := decide (k > (wI .i64 ((s.length : Int) - ata1)))
  refine br.h h ?_ ?_ ?_
  · rfl
  · clear h; intro hb h; conv => whnf
    all_goals (cases h; exact Res.z rfl rfl rfl)
  clear h; intro hb h; conv => whnf
  have hl := loop105_1 hS _ _ _ res _ _ _ h rfl; simp only [head105_1] at hl
  exact lrA1 hl [] rfl
theorem ok105 (hS : SumsOK Try.prog (aget (sums105))) : SumOK Try.prog 105 (s105 (R02_GetF)) := by
  refine SumOK.of_leads tab_ok (fun ar os r ha hr => ?_) ⟨Try.f105, rfl, by decide, rfl⟩
  replace hr : r105 (R02_GetF) ar (conts os) = some r := hr
  unfold r105 at hr
  generalize hc : conts os = C at hr
  replace hr := dV.elim hr; obtain ⟨v0, l1, y0, rfl, e0, hr⟩ := hr; obtain rfl := asS_eq _ _ e0
  replace hr := dV.elim hr; obtain ⟨v1, l2, y1, rfl, e1, hr⟩ := hr; obtain rfl := asI_eq _ _ _ e1
  replace hr := dV.elim hr; obtain ⟨v2, l3, y2, rfl, e2, hr⟩ := hr; obtain rfl := asI_eq _ _ _ e2
  replace hr := dFin hr; obtain ⟨rfl, rfl, x, h, rfl⟩ := hr
  obtain rfl := kinds_nil hc
  exact ⟨_, rfl, leads105 hS _ _ _ x h⟩
def R02_Get : (List UInt8) → Int → Int → Option (Int × Bool) := R02_GetF
theorem lift105 : SumOK Try.prog 105 (s105 R02_Get) := ok105 (SumsOK.of_tab trivial)
end Go.Vm.Code
namespace Go.Vm.Code
open Go Go.Vm
def putS (n k : Int) : List UInt8 := if 1 ≤ k ∧ k ≤ 8 then be n.toNat k.toNat else []
theorem octet_Put_eq {n k : Int} (h0 : 0 ≤ n) : octet_Put n k = some (putS n k) := by
  unfold octet_Put octet_PutF putS
  by_cases h1 : k < 1
  · rw [cond_p h1, if_neg (by omega)]
  by_cases h2 : k > 8
  · rw [cond_n h1, cond_p h2, if_neg (by omega)]
  rw [cond_n h1, cond_n h2, oreq_p (by omega), if_pos (by omega)]
  obtain ⟨m, rfl⟩ := Int.eq_ofNat_of_zero_le h0
  obtain ⟨j, rfl⟩ := Int.eq_ofNat_of_zero_le (show 0 ≤ k by omega)
  have key := iter_eq (step := fun (st : Int × List Int) => octet_Put_s1 (m : Int) (j : Int) st.1 st.2) (fun st => iB (st.2.take st.1.toNat) ++ be m (j - st.1.toNat)) (fun st => 0 ≤ st.1 ∧ st.1 ≤ j ∧ st.2.length = j) (fun st => (j - st.1).toNat) ?_ FUEL (0, List.replicate (j : Int).toNat 0) ⟨by simp, by simp, by simp⟩ (by rw [FUEL_eq]; simp only; omega)
  · rw [key]; simp [iB]
  rintro ⟨p, b⟩ ⟨g1, g2, g3⟩
  simp only at g1 g2 g3 ⊢
  obtain ⟨i, rfl⟩ := Int.eq_ofNat_of_zero_le g1
  unfold octet_Put_s1
  by_cases hp : i < j
  · refine .inr ⟨(((i + 1 : Nat) : Int), b.set i ((m / 256 ^ (j - 1 - i) % 256 : Nat) : Int)), ?_, ⟨by simp only; omega, by simp only; omega, by simp [g3]⟩, by simp only; omega, ?_⟩
    · simp (disch := omega) only [wI64, oreq_p, cond_p, Int.toNat_natCast]
      have e1 : min (8 * ((j : Int) - 1 - i)).toNat 64 = 8 * (j - 1 - i) := by omega
      have e0 : (2 : Int) ^ (8 * (j - 1 - i)) = ((256 ^ (j - 1 - i) : Nat) : Int) := by rw [show (256 : Nat) = 2 ^ 8 from rfl, ← Nat.pow_mul]; push_cast; rfl
      rw [e1, fdivP, wU8m, e0]
      rfl
    · simp only [Int.toNat_natCast]
      have e2 : j - i = (j - (i + 1)) + 1 := by omega
      have e3 : j - (i + 1) = j - 1 - i := by omega
      have e4 : (b.set i ((m / 256 ^ (j - 1 - i) % 256 : Nat) : Int)).take (i + 1) = b.take i ++ [((m / 256 ^ (j - 1 - i) % 256 : Nat) : Int)] := by
        rw [List.take_succ_eq_append_getElem (by simp; omega), List.take_set_of_le (Nat.le_refl _), List.getElem_set_self]
      rw [e2, e4, be, e3]
      simp only [iB, List.map_append, List.map_cons, List.map_nil, List.append_assoc, List.cons_append, List.nil_append, Int.toNat_natCast]
      congr 2
      apply UInt8.toNat_inj.1
      simp
  · refine .inl ?_
    obtain rfl : i = j := by omega
    simp (disch := omega) only [cond_n, oreq_p, Int.toNat_natCast]
    simp [be]
theorem R02_Put_eq {n k : Int} (h0 : 0 ≤ n) (h1 : n < 2 ^ 64) : R02_Put n k = some (putS n k) := by
  unfold R02_Put R02_PutF putS
  obtain ⟨m, rfl⟩ := Int.eq_ofNat_of_zero_le h0
  by_cases hk : 1 ≤ k ∧ k ≤ 8
  · rw [if_pos hk]
    obtain ⟨j, rfl⟩ := Int.eq_ofNat_of_zero_le (show 0 ≤ k by omega)
    have key := iter_eq (step := fun st => R02_Put_s1 (j : Int) st.1 st.2.1 st.2.2) (fun st => be st.1.toNat (j - st.2.2.toNat) ++ st.2.1) (fun st => 0 ≤ st.1 ∧ st.1 < 2 ^ 64 ∧ 0 ≤ st.2.2 ∧ st.2.2 ≤ j ∧ st.2.1.length < 2 ^ 20 + st.2.2.toNat) (fun st => (j - st.2.2).toNat) ?_ FUEL ((m : Int), [], 0) ⟨by simp, by simp only; omega, by simp, by simp, by simp⟩ (by rw [FUEL_eq]; simp only; omega)
    · rw [key]; simp
    rintro ⟨n, s, p⟩ ⟨g1, g2, g3, g4, g5⟩
    simp only at g1 g2 g3 g4 g5 ⊢
    obtain ⟨i, rfl⟩ := Int.eq_ofNat_of_zero_le g3
    obtain ⟨x, rfl⟩ := Int.eq_ofNat_of_zero_le g1
    unfold R02_Put_s1
    by_cases hp : i < j
    · refine .inr ⟨(((x / 256 : Nat) : Int), UInt8.ofNat x :: s, ((i + 1 : Nat) : Int)), ?_, ⟨by simp only; omega, by simp only; omega, by simp only; omega, by simp only; omega, by simp at g5 ⊢; omega⟩, by simp only; omega, ?_⟩
      · have e1 : (x : Int).tmod 256 = ((x % 256 : Nat) : Int) := by rw [Int.tmod_eq_emod_of_nonneg (by omega)]; rfl
        have e2 : (x : Int).tdiv 256 = ((x / 256 : Nat) : Int) := by rw [Int.tdiv_eq_ediv_of_nonneg (by omega)]; rfl
        rw [cond_p (by omega), cond_p (by omega), e1, e2, wU8 (by omega) (by omega)]
        simp only [List.length_cons, List.length_nil]
        rw [oreq_p (by omega), wU64 (by omega) (by omega), wI64 (by omega) (by omega), Int.toNat_natCast]
        have e3 : UInt8.ofNat (x % 256) = UInt8.ofNat x := by apply UInt8.toNat_inj.1; simp
        rw [e3]; rfl
      · simp only [Int.toNat_natCast]
        have e2 : j - i = (j - (i + 1)) + 1 := by omega
        rw [e2, be_snoc]; simp
    · refine .inl ?_
      obtain rfl : i = j := by omega
      rw [cond_n (by omega)]
      simp [be]
  · rw [if_neg hk]
    show iter _ (18446744073709551615 + 1) _ = _
    rw [iter]
    have : R02_Put_s1 k (m : Int) [] 0 = some (.inr []) := by
      unfold R02_Put_s1
      by_cases h2 : 0 < k
      · rw [cond_p h2, cond_n (by omega)]
      · rw [cond_n h2]
    simp only [this]
def getS (s : List UInt8) (p k : Int) : Int × Bool := if 1 ≤ k ∧ k ≤ 8 ∧ 0 ≤ p ∧ p + k ≤ s.length then (((valL ((s.drop p.toNat).take k.toNat) : Nat) : Int), true) else (0, false)
theorem pow_step {v i : Nat} (h : v < 256 ^ i) (hi : i ≤ 7) : v < 2 ^ 56 := Nat.lt_of_lt_of_le h (by
  have : (256 : Nat) ^ i ≤ 256 ^ 7 := Nat.pow_le_pow_right (by decide) hi
  simpa using this)
theorem octet_Get_eq {s : List UInt8} {p k : Int} (hs : s.length < 2 ^ 61) : octet_Get s p k = some (getS s p k) := by
  unfold octet_Get octet_GetF getS
  by_cases h1 : k < 1
  · rw [cond_p h1, if_neg (by omega)]
  by_cases h2 : k > 8
  · rw [cond_n h1, cond_p h2, if_neg (by omega)]
  by_cases h3 : p < 0
  · rw [cond_n h1, cond_n h2, cond_p h3, if_neg (by omega)]
  rw [cond_n h1, cond_n h2, cond_n h3, wI64 (n := (s.length : Int) - k) (by omega) (by omega)]
  by_cases h4 : (s.length : Int) - k < p
  · simp only []
    rw [cond_p h4, if_neg (by omega)]
  simp only []
  rw [cond_n h4, wI64 (n := p + k) (by omega) (by omega), oreq_p (by omega), if_pos (by omega)]
  obtain ⟨q, rfl⟩ := Int.eq_ofNat_of_zero_le (show 0 ≤ p by omega)
  obtain ⟨j, rfl⟩ := Int.eq_ofNat_of_zero_le (show 0 ≤ k by omega)
  have e : ((q : Int) + j).toNat - (q : Int).toNat = j := by omega
  rw [e]
  simp only [Int.toNat_natCast]
  generalize ht : (s.drop q).take j = t
  have hl : t.length = j := by rw [← ht]; simp; omega
  have key := iter_eq (step := fun st => octet_Get_s1 t st.1 st.2) (fun st => (((st.1.toNat * 256 ^ (j - st.2.toNat) + valL (t.drop st.2.toNat) : Nat) : Int), true)) (fun st => 0 ≤ st.1 ∧ 0 ≤ st.2 ∧ st.2 ≤ j ∧ st.1.toNat < 256 ^ st.2.toNat) (fun st => (j - st.2).toNat) ?_ FUEL (0, 0) ⟨by simp, by simp, by simp, by simp⟩ (by rw [FUEL_eq]; simp only; omega)
  · rw [key]; simp
  rintro ⟨n, x⟩ ⟨g1, g2, g3, g4⟩
  simp only at g1 g2 g3 g4 ⊢
  obtain ⟨i, rfl⟩ := Int.eq_ofNat_of_zero_le g2
  obtain ⟨v, rfl⟩ := Int.eq_ofNat_of_zero_le g1
  simp only [Int.toNat_natCast] at g4 ⊢
  unfold octet_Get_s1
  by_cases hp : i < j
  · have hlt : i < t.length := by omega
    have hb := t[i].toNat_lt
    have hv := pow_step g4 (by omega)
    refine .inr ⟨(((v * 256 + t[i].toNat : Nat) : Int), ((i + 1 : Nat) : Int)), ?_, ⟨by simp only; omega, by simp only; omega, by simp only; omega, ?_⟩, by simp only; omega, ?_⟩
    · rw [cond_p (by omega), oreq_p (by omega)]
      have e1 : (bI t)[(i : Int).toNat]? = some (t[i].toNat : Int) := by simp [bI, hlt]
      rw [e1, Option.bind_some]
      have e2 : iorI .u64 (wI .u64 ((v : Int) * 2 ^ 8)) (wI .u64 (t[i].toNat : Int)) = ((v * 256 + t[i].toNat : Nat) : Int) := by
        rw [wU64 (by omega) (by omega), wU64 (by omega) (by omega), iorU64_low 8 (by omega) (by omega) (by omega) (by omega) (by omega)]; omega
      simp only [e2]
      rw [wI64 (by omega) (by omega)]; rfl
    · simp only [Int.toNat_natCast]
      rw [Nat.pow_succ]; omega
    · simp only [Int.toNat_natCast]
      rw [List.drop_eq_getElem_cons hlt, val_cons]
      have e3 : (t.drop (i + 1)).length = j - (i + 1) := by simp; omega
      have e4 : j - i = (j - (i + 1)) + 1 := by omega
      rw [e3, e4, Nat.pow_succ, Nat.add_mul, Nat.mul_assoc, Nat.mul_comm 256, Nat.add_assoc]
  · refine .inl ?_
    obtain rfl : i = j := by omega
    rw [cond_n (by omega)]
    simp [← hl]
theorem R02_Get_eq {s : List UInt8} {p k : Int} (hs : s.length < 2 ^ 61) : R02_Get s p k = some (getS s p k) := by
  unfold R02_Get R02_GetF getS
  by_cases h1 : k < 1
  · rw [cond_p h1, if_neg (by omega)]
  by_cases h2 : k > 8
  · rw [cond_n h1, cond_p h2, if_neg (by omega)]
  by_cases h3 : p < 0
  · rw [cond_n h1, cond_n h2, cond_p h3, if_neg (by omega)]
  by_cases h5 : p > s.length
  · rw [cond_n h1, cond_n h2, cond_n h3, cond_p h5, if_neg (by omega)]
  rw [cond_n h1, cond_n h2, cond_n h3, cond_n h5, wI64 (n := (s.length : Int) - p) (by omega) (by omega)]
  by_cases h4 : k > (s.length : Int) - p
  · simp only []
    rw [cond_p h4, if_neg (by omega)]
  simp only []
  rw [cond_n h4, if_pos (by omega)]
  obtain ⟨q, rfl⟩ := Int.eq_ofNat_of_zero_le (show 0 ≤ p by omega)
  obtain ⟨j, rfl⟩ := Int.eq_ofNat_of_zero_le (show 0 ≤ k by omega)
  simp only [Int.toNat_natCast]
  generalize ht : (s.drop q).take j = t
  have hl : t.length = j := by rw [← ht]; simp; omega
  have key := iter_eq (step := fun st => R02_Get_s1 s (q : Int) (j : Int) st.1 st.2) (fun st => (((st.1.toNat * 256 ^ (j - st.2.toNat) + valL (t.drop st.2.toNat) : Nat) : Int), true)) (fun st => 0 ≤ st.1 ∧ 0 ≤ st.2 ∧ st.2 ≤ j ∧ st.1.toNat < 256 ^ st.2.toNat) (fun st => (j - st.2).toNat) ?_ FUEL (0, 0) ⟨by simp, by simp, by simp, by simp⟩ (by rw [FUEL_eq]; simp only; omega)
  · rw [key]; simp
  rintro ⟨n, x⟩ ⟨g1, g2, g3, g4⟩
  simp only at g1 g2 g3 g4 ⊢
  obtain ⟨i, rfl⟩ := Int.eq_ofNat_of_zero_le g2
  obtain ⟨v, rfl⟩ := Int.eq_ofNat_of_zero_le g1
  simp only [Int.toNat_natCast] at g4 ⊢
  unfold R02_Get_s1
  by_cases hp : i < j
  · have hlt : i < t.length := by omega
    have hb := t[i].toNat_lt
    have hv := pow_step g4 (by omega)
    refine .inr ⟨(((v * 256 + t[i].toNat : Nat) : Int), ((i + 1 : Nat) : Int)), ?_, ⟨by simp only; omega, by simp only; omega, by simp only; omega, ?_⟩, by simp only; omega, ?_⟩
    · rw [cond_p (by omega), wI64 (n := (q : Int) + i) (by omega) (by omega), oreq_p (by omega)]
      have e0 : ((q : Int) + i).toNat = q + i := by omega
      have e1 : s[q + i]? = some t[i] := by
        subst ht
        rw [List.getElem?_eq_getElem (by omega)]
        simp
      rw [e0, e1, Option.bind_some]
      have e2 : wI .u64 ((wI .u64 ((v : Int) * 256)) + (wI .u64 (t[i].toNat : Int))) = ((v * 256 + t[i].toNat : Nat) : Int) := by
        rw [wU64 (n := (v : Int) * 256) (by omega) (by omega), wU64 (n := (t[i].toNat : Int)) (by omega) (by omega), wU64 (by omega) (by omega)]; omega
      simp only [e2]
      rw [wI64 (by omega) (by omega)]; rfl
    · simp only [Int.toNat_natCast]
      rw [Nat.pow_succ]; omega
    · simp only [Int.toNat_natCast]
      rw [List.drop_eq_getElem_cons hlt, val_cons]
      have e3 : (t.drop (i + 1)).length = j - (i + 1) := by simp; omega
      have e4 : j - i = (j - (i + 1)) + 1 := by omega
      rw [e3, e4, Nat.pow_succ, Nat.add_mul, Nat.mul_assoc, Nat.mul_comm 256, Nat.add_assoc]
  · refine .inl ?_
    obtain rfl : i = j := by omega
    rw [cond_n (by omega)]
    simp [← hl]
end Go.Vm.Code
namespace Go.Vm.Code
open Go Go.Vm Go.Proofs
set_option maxRecDepth 100000
set_option maxHeartbeats 4000000
set_option linter.unusedVariables false
def addr_PutF (addr_Right : api_Addr → Option Bool) (octet_Put : Int → Int → Option (List UInt8)) (a : api_Addr) : Option (List UInt8) :=
  (addr_Right a).bind fun xr =>
  cond (!xr)
    (
    some ([]))
    (
    cond (a.V6)
      (
      (octet_Put a.Hi 8).bind fun p =>
      (octet_Put a.Lo 8).bind fun p1 =>
      oreq (decide (p.length + p1.length < 2 ^ 63)) <|
      some (p ++ p1))
      (
      (octet_Put a.Lo 4).bind fun p2 =>
      some (p2)))
def rx110 (x : List UInt8) : SRes := ⟨.string ⟨⟨x⟩⟩, [], []⟩
def r110 (g : api_Addr → Option (List UInt8)) : Dec := dV uvapi_Addr fun (y0 : api_Addr) => dEnd (ofG (g y0) rx110)
theorem r110_c {g : api_Addr → Option (List UInt8)} {y0 : api_Addr} {x : List UInt8} (hx : g y0 = some x) : r110 g [.agg ⟨[.bool y0.V6, .int .u64 y0.Hi, .int .u64 y0.Lo]⟩] [] = some (rx110 x) := (dV_eq (uvapi_Addr_c _)).trans (ofG_eq hx)
def s110 (g : api_Addr → Option (List UInt8)) : Summ := ⟨[.v], r110 g⟩
theorem r110_eq {g : api_Addr → Option (List UInt8)} {y0 : api_Addr} {x : List UInt8} (hx : g y0 = some x) : (s110 g).run [.agg ⟨[.bool y0.V6, .int .u64 y0.Hi, .int .u64 y0.Lo]⟩] [] = some (rx110 x) := r110_c hx
abbrev sums110 (addr_Right : api_Addr → Option Bool) (octet_Put : Int → Int → Option (List UInt8)) : List (Nat × Summ) := [(82, s82 addr_Right), (109, s109 octet_Put)]
theorem leads110 (addr_Right : api_Addr → Option Bool) (octet_Put : Int → Int → Option (List UInt8)) (hS : SumsOK Try.prog (aget (sums110 addr_Right octet_Put))) (a : api_Addr) (res : List UInt8) (h : addr_PutF addr_Right octet_Put a = some res) :
    Leads Try.prog 110 0 ⟨⟨110, 20, [(0, .agg ⟨[.bool a.V6, .int .u64 a.Hi, .int .u64 a.Lo]⟩)], [.code k110_15], [], false, none⟩, [], [], 0⟩ (fun v H _ => Res 0 (rx110 res) v H) := by
  unfold addr_PutF at h
  refine ev_ok tab_ok hS true 3000 ?_
  conv => whnf
  replace h := obind.elim h; obtain ⟨xr, hy, h⟩ := h
  refine sumK.q rfl rfl (r82_eq hy) rfl rfl rfl ?_
  conv => whnf
  refine br.h h ?_ ?_ ?_
  · rfl
  · clear h; intro hb h; conv => whnf
    all_goals (cases h; exact Res.z rfl rfl rfl)
  clear h; intro hb h; conv => whnf
  refine br.h2 h ?_ ?_ ?_
  · rfl
  · clear h; intro hb h; conv => whnf
    replace h := obind.elim h; obtain ⟨p2, hy, h⟩ := h
    refine sumK.q rfl rfl (r109_eq hy) rfl rfl rfl ?_
    conv => whnf
    all_goals (cases h; exact Res.z rfl rfl rfl)
  clear h; intro hb h; conv => whnf
  replace h := obind.elim h; obtain ⟨p, hy, h⟩ := h
  refine sumK.q rfl rfl (r109_eq hy) rfl rfl rfl ?_
  conv => whnf
  replace h := obind.elim h; obtain ⟨p1, hy, h⟩ := h
  refine sumK.q rfl rfl (r109_eq hy) rfl rfl rfl ?_
  conv => whnf
  replace h := oreq.elim h; obtain ⟨hb, h⟩ := h
  first | (refine req.intro hb ?_; conv => whnf) | skip
  all_goals (cases h; exact Res.z rfl rfl rfl)
theorem ok110 (addr_Right : api_Addr → Option Bool) (octet_Put : Int → Int → Option (List UInt8)) (hS : SumsOK Try.prog (aget (sums110 addr_Right octet_Put))) : SumOK Try.prog 110 (s110 (addr_PutF addr_Right octet_Put)) := by
  refine SumOK.of_leads tab_ok (fun ar os r ha hr => ?_) ⟨Try.f110, rfl, by decide, rfl⟩
  replace hr : r110 (addr_PutF addr_Right octet_Put) ar (conts os) = some r := hr
  unfold r110 at hr
  generalize hc : conts os = C at hr
  replace hr := dV.elim hr; obtain ⟨v0, l1, y0, rfl, e0, hr⟩ := hr; obtain rfl := uvapi_Addr_eq _ _ e0
  replace hr := dFin hr; obtain ⟨rfl, rfl, x, h, rfl⟩ := hr
  obtain rfl := kinds_nil hc
  exact ⟨_, rfl, leads110 addr_Right octet_Put hS _ x h⟩
def addr_Put : api_Addr → Option (List UInt8) := addr_PutF addr_Right octet_Put
theorem lift110 : SumOK Try.prog 110 (s110 addr_Put) := ok110 addr_Right octet_Put (SumsOK.of_tab ⟨lift82, lift109, trivial⟩)
def tuple_within_s1 (most : Int) (l : List Int) (t9 : Int) : Option (Sum Int Bool) :=
  cond (decide (t9 < (l.length : Int)))
    (
    oreq (decide ((0 : Int) ≤ t9 ∧ t9 < (l.length : Int))) <|
    (l[t9.toNat]?).bind fun (e : Int) =>
    cond (decide (e < 0))
      (
      some (.inr (false)))
      (
      cond (decide (e > most))
        (
        some (.inr (false)))
        (
        some (.inl (wI .i64 (t9 + 1))))))
    (
    some (.inr (true)))
def tuple_withinF (most : Int) (l : List Int) : Option Bool :=
  iter (fun st => tuple_within_s1 most l st) FUEL 0
def rx160 (x : Bool) : SRes := ⟨.bool x, [], [none]⟩
def r160 (g : Int → (List Int) → Option Bool) : Dec := dV (asI .i64) fun (y0 : Int) => dSl 0 1 (unL (asI .i64)) fun (y1 : List Int) => dEnd (ofG (g y0 y1) rx160)
theorem r160_c {g : Int → (List Int) → Option Bool} {y0 : Int} {y1 : List Int} {x : Bool} (hx : g y0 y1 = some x) : r160 g [.int .i64 y0, .slice (some ⟨0, 0, none⟩) y1.length 1] [some (vI .i64 y1)] = some (rx160 x) := (dV_eq (asI_c _)).trans ((dSl_eq (unI_vI _ _)).trans (ofG_eq hx))
def s160 (g : Int → (List Int) → Option Bool) : Summ := ⟨[.v, .sl 1], r160 g⟩
theorem r160_eq {g : Int → (List Int) → Option Bool} {y0 : Int} {y1 : List Int} {x : Bool} (hx : g y0 y1 = some x) : (s160 g).run [.int .i64 y0, .slice (some ⟨0, 0, none⟩) y1.length 1] [some (vI .i64 y1)] = some (rx160 x) := r160_c hx
abbrev sums160 : List (Nat × Summ) := []
def head160_1 (most : Int) (l : List Int) (t9 : Int) : VM :=
  ⟨⟨160, 21, [(0, .int .i64 most), (7, .slice (some ⟨0, 0, none⟩) l.length 1), (8, .int .i64 (l.length : Int)), (9, .int .i64 t9)], [.code k160_15, .inLoop k160_15, .inBlock 0, .code k160_20], [], false, none⟩, [], [(0, .row false (vI .i64 l))], 1⟩
theorem loop160_1 (hS : SumsOK Try.prog (aget (sums160))) (most : Int) (l : List Int) (res : Bool) : ∀ fuel (st : Int) (o : Bool), iter (fun st => tuple_within_s1 most l st) fuel st = some o → (o = res) →
    Leads Try.prog 160 1 (head160_1 most l st) (fun v H _ => Res 1 (rx160 res) v H) := by
  intro fuel st o h hc
  refine iter_leads (head := fun st => head160_1 most l st) (C := fun o => (o = res)) ?_ fuel st o h hc
  clear h hc o st fuel
  intro t9 o h hc
  replace h : tuple_within_s1 most l t9 = some o := h
  show Leads Try.prog 160 1 (head160_1 most l t9) (fun v H _ => Res 1 (rx160 res) v H)
  unfold tuple_within_s1 at h
  refine ev_ok tab_ok hS true 3000 ?_
  conv => whnf
  refine br.h2 h ?_ ?_ ?_
  · rfl
  · clear h; intro hb h; conv => whnf
    all_goals (cases h; cases hc)
    all_goals exact Res.of [] rfl nw_0 (by decide) js_0 (wr_n wr_0)
  clear h; intro hb h; conv => whnf
  replace h := oreq.elim h; obtain ⟨hb, h⟩ := h
  first | (refine req.intro hb ?_; conv => whnf) | skip
  replace h := obind.elim h; obtain ⟨e, hy, h⟩ := h
  refine rd.I hy (by first | rfl | (rw [Nat.zero_add, Nat.mul_one]; try rfl; done) | omega) ?_
  conv => whnf
  refine br.h h ?_ ?_ ?_
  · rfl
  · clear h; intro hb h; conv => whnf
    all_goals (cases h; cases hc)
    all_goals exact Res.of [] rfl nw_0 (by decide) js_0 (wr_n wr_0)
  clear h; intro hb h; conv => whnf
  refine br.h h ?_ ?_ ?_
  · rfl
  · clear h; intro hb h; conv => whnf
    all_goals (cases h; cases hc)
    all_goals exact Res.of [] rfl nw_0 (by decide) js_0 (wr_n wr_0)
  clear h; intro hb h; conv => whnf
  cases h; simp only [Sum.elim_inl, head160_1] at hc
  exact lrA1 hc [(0, 0)] rfl
theorem leads160 (hS : SumsOK Try.prog (aget (sums160))) (most : Int) (l : List Int) (res : Bool) (h : tuple_withinF most l = some res) :
    Leads Try.prog 160 1 ⟨⟨160, 21, [(0, .int .i64 most), (1, .slice (some ⟨0, 0, none⟩) l.length 1)], [.code k160_22], [], false, none⟩, [], [(0, .row false (vI .i64 l))], 1⟩ (fun v H _ => Res 1 (rx160 res) v H) := by
  unfold tuple_withinF at h
  refine ev_ok tab_ok hS true 3000 ?_
  conv => whnf
  have hl := loop160_1 hS _ _ res _ _ _ h rfl; simp only [head160_1] at hl
  exact lrA1 hl [(0, 0)] rfl
theorem ok160 (hS : SumsOK Try.prog (aget (sums160))) : SumOK Try.prog 160 (s160 (tuple_withinF)) := by
  refine SumOK.of_leads tab_ok (fun ar os r ha hr => ?_) ⟨Try.f160, rfl, by decide, rfl⟩
  replace hr : r160 (tuple_withinF) ar (conts os) = some r := hr
  unfold r160 at hr
  generalize hc : conts os = C at hr
  replace hr := dV.elim hr; obtain ⟨v0, l1, y0, rfl, e0, hr⟩ := hr; obtain rfl := asI_eq _ _ _ e0
  have hq := dSl.elim hr; clear hr; obtain ⟨c1, l2, C, y1, rfl, rfl, e1, hr⟩ := hq; obtain rfl := unI_eq e1
  replace hr := dFin hr; obtain ⟨rfl, rfl, x, h, rfl⟩ := hr
  obtain ⟨os, rfl, ha, hc⟩ := kinds_some ha hc
  obtain rfl := kinds_nil hc
  exact ⟨_, rfl, leads160 hS _ _ x h⟩
def tuple_within : Int → (List Int) → Option Bool := tuple_withinF
theorem lift160 : SumOK Try.prog 160 (s160 tuple_within) := ok160 (SumsOK.of_tab trivial)
def tuple_RightF (addr_Right : api_Addr → Option Bool) (tuple_within : Int → (List Int) → Option Bool) (t : api_Tuple) : Option Bool :=
  (tuple_within 255 [t.Proto]).bind fun w =>
  cond (w)
    (
    (tuple_within 65535 [t.SPort, t.DPort]).bind fun w1 =>
    cond (w1)
      (
      (addr_Right t.Src).bind fun xr =>
      cond (xr)
        (
        (addr_Right t.Dst).bind fun xr1 =>
        cond (xr1)
          (
          some (t.Src.V6 == t.Dst.V6))
          (
          some (false)))
        (
        some (false)))
      (
      some (false)))
    (
    some (false))
def rx155 (x : Bool) : SRes := ⟨.bool x, [], []⟩
def r155 (g : api_Tuple → Option Bool) : Dec := dV uvapi_Tuple fun (y0 : api_Tuple) => dEnd (ofG (g y0) rx155)
theorem r155_c {g : api_Tuple → Option Bool} {y0 : api_Tuple} {x : Bool} (hx : g y0 = some x) : r155 g [.agg ⟨[.int .i64 y0.Proto, .bool y0.Src.V6, .int .u64 y0.Src.Hi, .int .u64 y0.Src.Lo, .bool y0.Dst.V6, .int .u64 y0.Dst.Hi, .int .u64 y0.Dst.Lo, .int .i64 y0.SPort, .int .i64 y0.DPort]⟩] [] = some (rx155 x) := (dV_eq (uvapi_Tuple_c _)).trans (ofG_eq hx)
def s155 (g : api_Tuple → Option Bool) : Summ := ⟨[.v], r155 g⟩
theorem r155_eq {g : api_Tuple → Option Bool} {y0 : api_Tuple} {x : Bool} (hx : g y0 = some x) : (s155 g).run [.agg ⟨[.int .i64 y0.Proto, .bool y0.Src.V6, .int .u64 y0.Src.Hi, .int .u64 y0.Src.Lo, .bool y0.Dst.V6, .int .u64 y0.Dst.Hi, .int .u64 y0.Dst.Lo, .int .i64 y0.SPort, .int .i64 y0.DPort]⟩] [] = some (rx155 x) := r155_c hx
abbrev sums155 (addr_Right : api_Addr → Option Bool) (tuple_within : Int → (List Int) → Option Bool) : List (Nat × Summ) := [(82, s82 addr_Right), (160, s160 tuple_within)]
theorem leads155 (addr_Right : api_Addr → Option Bool) (tuple_within : Int → (List Int) → Option Bool) (hS : SumsOK Try.prog (aget (sums155 addr_Right tuple_within))) (t : api_Tuple) (res : Bool) (h : tuple_RightF addr_Right tuple_within t = some res) :
    Leads Try.prog 155 0 ⟨⟨155, 34, [(0, .agg ⟨[.int .i64 t.Proto, .bool t.Src.V6, .int .u64 t.Src.Hi, .int .u64 t.Src.Lo, .bool t.Dst.V6, .int .u64 t.Dst.Hi, .int .u64 t.Dst.Lo, .int .i64 t.SPort, .int .i64 t.DPort]⟩)], [.code k155_3], [], false, none⟩, [], [], 0⟩ (fun v H _ => Res 0 (rx155 res) v H) := by
  unfold tuple_RightF at h
  refine ev_ok tab_ok hS true 3000 ?_
  conv => whnf
  replace h := obind.elim h; obtain ⟨w, hy, h⟩ := h
  refine sumK.introF [] (sumRun_of (aqs := [.int .i64 255, .slice (some ⟨0, 0, none⟩) ([t.Proto] : List Int).length 1]) (ws := [.win 1 0 (1 * 1) false]) (n := 0) (m := 0) (t' := 2) (ra_cons rfl rfl (ra_cons (by first | rfl | exact ra_allI rfl rfl (by first | rfl | omega) (by first | rfl | (simp; done)) | exact ra_slI rfl rfl (by first | rfl | omega) (by first | rfl | omega) (by first | omega | (simp at *; omega))) rfl ra_nil)) rfl (by rfl) (r160_eq hy) rfl rfl rfl rfl (wb_skip rfl wb_nil) an_nil rfl) ?_
  conv => whnf
  refine br.h2 h ?_ ?_ ?_
  · rfl
  · clear h; intro hb h; conv => whnf
    all_goals (cases h; exact Res.z rfl rfl rfl)
  clear h; intro hb h; conv => whnf
  replace h := obind.elim h; obtain ⟨w1, hy, h⟩ := h
  refine sumK.introF [] (sumRun_of (aqs := [.int .i64 65535, .slice (some ⟨0, 0, none⟩) ([t.SPort, t.DPort] : List Int).length 1]) (ws := [.win 2 0 (2 * 1) false]) (n := 0) (m := 0) (t' := 3) (ra_cons rfl rfl (ra_cons (by first | rfl | exact ra_allI rfl rfl (by first | rfl | omega) (by first | rfl | (simp; done)) | exact ra_slI rfl rfl (by first | rfl | omega) (by first | rfl | omega) (by first | omega | (simp at *; omega))) rfl ra_nil)) rfl (by rfl) (r160_eq hy) rfl rfl rfl rfl (wb_skip rfl wb_nil) an_nil rfl) ?_
  conv => whnf
  refine br.h2 h ?_ ?_ ?_
  · rfl
  · clear h; intro hb h; conv => whnf
    all_goals (cases h; exact Res.z rfl rfl rfl)
  clear h; intro hb h; conv => whnf
  replace h := obind.elim h; obtain ⟨xr, hy, h⟩ := h
  refine sumK.q rfl rfl (r82_eq hy) rfl rfl rfl ?_
  conv => whnf
  refine br.h2 h ?_ ?_ ?_
  · rfl
  · clear h; intro hb h; conv => whnf
    all_goals (cases h; exact Res.z rfl rfl rfl)
  clear h; intro hb h; conv => whnf
  replace h := obind.elim h; obtain ⟨xr1, hy, h⟩ := h
  refine sumK.q rfl rfl (r82_eq hy) rfl rfl rfl ?_
  conv => whnf
  refine br.h h ?_ ?_ ?_
  · rfl
  · clear h; intro hb h; conv => whnf
    all_goals (cases h; exact Res.z rfl rfl rfl)
  clear h; intro hb h; conv => whnf
  all_goals (cases h; exact Res.z rfl rfl rfl)
theorem ok155 (addr_Right : api_Addr → Option Bool) (tuple_within : Int → (List Int) → Option Bool) (hS : SumsOK Try.prog (aget (sums155 addr_Right tuple_within))) : SumOK Try.prog 155 (s155 (tuple_RightF addr_Right tuple_within)) := by
  refine SumOK.of_leads tab_ok (fun ar os r ha hr => ?_) ⟨Try.f155, rfl, by decide, rfl⟩
  replace hr : r155 (tuple_RightF addr_Right tuple_within) ar (conts os) = some r := hr
  unfold r155 at hr
  generalize hc : conts os = C at hr
  replace hr := dV.elim hr; obtain ⟨v0, l1, y0, rfl, e0, hr⟩ := hr; obtain rfl := uvapi_Tuple_eq _ _ e0
  replace hr := dFin hr; obtain ⟨rfl, rfl, x, h, rfl⟩ := hr
  obtain rfl := kinds_nil hc
  exact ⟨_, rfl, leads155 addr_Right tuple_within hS _ x h⟩
def tuple_Right : api_Tuple → Option Bool := tuple_RightF addr_Right tuple_within
theorem lift155 : SumOK Try.prog 155 (s155 tuple_Right) := ok155 addr_Right tuple_within (SumsOK.of_tab ⟨lift82, lift160, trivial⟩)
def tuple_kindF (six : Bool) : Option Int :=
  cond (six)
    (
    some (6))
    (
    some (4))
def rx156 (x : Int) : SRes := ⟨.int .i64 x, [], []⟩
def r156 (g : Bool → Option Int) : Dec := dV asB fun (y0 : Bool) => dEnd (ofG (g y0) rx156)
theorem r156_c {g : Bool → Option Int} {y0 : Bool} {x : Int} (hx : g y0 = some x) : r156 g [.bool y0] [] = some (rx156 x) := (dV_eq (asB_c)).trans (ofG_eq hx)
def s156 (g : Bool → Option Int) : Summ := ⟨[.v], r156 g⟩
theorem r156_eq {g : Bool → Option Int} {y0 : Bool} {x : Int} (hx : g y0 = some x) : (s156 g).run [.bool y0] [] = some (rx156 x) := r156_c hx
abbrev sums156 : List (Nat × Summ) := []
theorem leads156 (hS : SumsOK Try.prog (aget (sums156))) (six : Bool) (res : Int) (h : tuple_kindF six = some res) :
    Leads Try.prog 156 0 ⟨⟨156, 4, [(0, .bool six)], [.code k156_9], [], false, none⟩, [], [], 0⟩ (fun v H _ => Res 0 (rx156 res) v H) := by
  unfold tuple_kindF at h
  refine ev_ok tab_ok hS true 3000 ?_
  conv => whnf
  refine br.h h ?_ ?_ ?_
  · rfl
  · clear h; intro hb h; conv => whnf
    all_goals (cases h; exact Res.z rfl rfl rfl)
  clear h; intro hb h; conv => whnf
  all_goals (cases h; exact Res.z rfl rfl rfl)
theorem ok156 (hS : SumsOK Try.prog (aget (sums156))) : SumOK Try.prog 156 (s156 (tuple_kindF)) := by
  refine SumOK.of_leads tab_ok (fun ar os r ha hr => ?_) ⟨Try.f156, rfl, by decide, rfl⟩
  replace hr : r156 (tuple_kindF) ar (conts os) = some r := hr
  unfold r156 at hr
  generalize hc : conts os = C at hr
  replace hr := dV.elim hr; obtain ⟨v0, l1, y0, rfl, e0, hr⟩ := hr; obtain rfl := asB_eq _ _ e0
  replace hr := dFin hr; obtain ⟨rfl, rfl, x, h, rfl⟩ := hr
  obtain rfl := kinds_nil hc
  exact ⟨_, rfl, leads156 hS _ x h⟩
def tuple_kind : Bool → Option Int := tuple_kindF
theorem lift156 : SumOK Try.prog 156 (s156 tuple_kind) := ok156 (SumsOK.of_tab trivial)
def tuple_PutF (addr_Put : api_Addr → Option (List UInt8)) (octet_Put : Int → Int → Option (List UInt8)) (tuple_Right : api_Tuple → Option Bool) (tuple_kind : Bool → Option Int) (t : api_Tuple) : Option (List UInt8) :=
  (tuple_Right t).bind fun xr =>
  cond (!xr)
    (
    some ([]))
    (
    (tuple_kind t.Src.V6).bind fun k =>
    let t1 := wI .u64 (iorI .i64 (wI .i64 (k * 2 ^ 8)) t.Proto)
    (octet_Put t1 2).bind fun p =>
    (addr_Put t.Src).bind fun p1 =>
    oreq (decide (p.length + p1.length < 2 ^ 63)) <|
    (addr_Put t.Dst).bind fun p2 =>
    oreq (decide ((p ++ p1).length + p2.length < 2 ^ 63)) <|
    let t2 := iorI .u64 (wI .u64 ((wI .u64 t.SPort) * 2 ^ 16)) (wI .u64 t.DPort)
    (octet_Put t2 4).bind fun p3 =>
    oreq (decide (((p ++ p1) ++ p2).length + p3.length < 2 ^ 63)) <|
    some (((p ++ p1) ++ p2) ++ p3))
def rx150 (x : List UInt8) : SRes := ⟨.string ⟨⟨x⟩⟩, [], []⟩
def r150 (g : api_Tuple → Option (List UInt8)) : Dec := dV uvapi_Tuple fun (y0 : api_Tuple) => dEnd (ofG (g y0) rx150)
theorem r150_c {g : api_Tuple → Option (List UInt8)} {y0 : api_Tuple} {x : List UInt8} (hx : g y0 = some x) : r150 g [.agg ⟨[.int .i64 y0.Proto, .bool y0.Src.V6, .int .u64 y0.Src.Hi, .int .u64 y0.Src.Lo, .bool y0.Dst.V6, .int .u64 y0.Dst.Hi, .int .u64 y0.Dst.Lo, .int .i64 y0.SPort, .int .i64 y0.DPort]⟩] [] = some (rx150 x) := (dV_eq (uvapi_Tuple_c _)).trans (ofG_eq hx)
def s150 (g : api_Tuple → Option (List UInt8)) : Summ := ⟨[.v], r150 g⟩
theorem r150_eq {g : api_Tuple → Option (List UInt8)} {y0 : api_Tuple} {x : List UInt8} (hx : g y0 = some x) : (s150 g).run [.agg ⟨[.int .i64 y0.Proto, .bool y0.Src.V6, .int .u64 y0.Src.Hi, .int .u64 y0.Src.Lo, .bool y0.Dst.V6, .int .u64 y0.Dst.Hi, .int .u64 y0.Dst.Lo, .int .i64 y0.SPort, .int .i64 y0.DPort]⟩] [] = some (rx150 x) := r150_c hx
abbrev sums150 (addr_Put : api_Addr → Option (List UInt8)) (octet_Put : Int → Int → Option (List UInt8)) (tuple_Right : api_Tuple → Option Bool) (tuple_kind : Bool → Option Int) : List (Nat × Summ) := [(110, s110 addr_Put), (109, s109 octet_Put), (155, s155 tuple_Right), (156, s156 tuple_kind)]
theorem leads150 (addr_Put : api_Addr → Option (List UInt8)) (octet_Put : Int → Int → Option (List UInt8)) (tuple_Right : api_Tuple → Option Bool) (tuple_kind : Bool → Option Int) (hS : SumsOK Try.prog (aget (sums150 addr_Put octet_Put tuple_Right tuple_kind))) (t : api_Tuple) (res : List UInt8) (h : tuple_PutF addr_Put octet_Put tuple_Right tuple_kind t = some res) :
    Leads Try.prog 150 0 ⟨⟨150, 34, [(0, .agg ⟨[.int .i64 t.Proto, .bool t.Src.V6, .int .u64 t.Src.Hi, .int .u64 t.Src.Lo, .bool t.Dst.V6, .int .u64 t.Dst.Hi, .int .u64 t.Dst.Lo, .int .i64 t.SPort, .int .i64 t.DPort]⟩)], [.code k150_9], [], false, none⟩, [], [], 0⟩ (fun v H _ => Res 0 (rx150 res) v H) := by
  unfold tuple_PutF at h
  refine ev_ok tab_ok hS true 3000 ?_
  conv => whnf
  replace h := obind.elim h; obtain ⟨xr, hy, h⟩ := h
  refine sumK.q rfl rfl (r155_eq hy) rfl rfl rfl ?_
  conv => whnf
  refine br.h h ?_ ?_ ?_
  · rfl
  · clear h; intro hb h; conv => whnf
    all_goals (cases h; exact Res.z rfl rfl rfl)
  clear h; intro hb h; conv => whnf
  replace h := obind.elim h; obtain ⟨k, hy, h⟩ := h
  refine sumK.q rfl rfl (r156_eq hy) rfl rfl rfl ?_
  conv => whnf
  let t1 : Int := wI .u64 (iorI .i64 (wI .i64 (k * 2 ^ 8)) t.Proto)
  replace h := obind.elim h; obtain ⟨p, hy, h⟩ := h
  refine sumK.q rfl rfl (r109_eq hy) rfl rfl rfl ?_
  conv => whnf
  replace h := obind.elim h; obtain ⟨p1, hy, h⟩ := h
  refine sumK.q rfl rfl (r110_eq hy) rfl rfl rfl ?_
  conv => whnf
  replace h := oreq.elim h; obtain ⟨hb, h⟩ := h
  first | (refine req.intro hb ?_; conv => whnf) | skip
  replace h := obind.elim h; obtain ⟨p2, hy, h⟩ := h
  refine sumK.q rfl rfl (r110_eq hy) rfl rfl rfl ?_
  conv => whnf
  replace h := oreq.elim h; obtain ⟨hb, h⟩ := h
  first | (refine req.intro hb ?_; conv => whnf) | skip
  let t2 : Int := iorI .u64 (wI .u64 ((wI .u64 t.SPort) * 2 ^ 16)) (wI .u64 t.DPort)
  replace h := obind.elim h; obtain ⟨p3, hy, h⟩ := h
  refine sumK.q rfl rfl (r109_eq hy) rfl rfl rfl ?_
  conv => whnf
  replace h := oreq.elim h; obtain ⟨hb, h⟩ := h
  first | (refine req.intro hb ?_; conv => whnf) | skip
  all_goals (cases h; exact Res.z rfl rfl rfl)
theorem ok150 (addr_Put : api_Addr → Option (List UInt8)) (octet_Put : Int → Int → Option (List UInt8)) (tuple_Right : api_Tuple → Option Bool) (tuple_kind : Bool → Option Int) (hS : SumsOK Try.prog (aget (sums150 addr_Put octet_Put tuple_Right tuple_kind))) : SumOK Try.prog 150 (s150 (tuple_PutF addr_Put octet_Put tuple_Right tuple_kind)) := by
  refine SumOK.of_leads tab_ok (fun ar os r ha hr => ?_) ⟨Try.f150, rfl, by decide, rfl⟩
  replace hr : r150 (tuple_PutF addr_Put octet_Put tuple_Right tuple_kind) ar (conts os) = some r := hr
  unfold r150 at hr
  generalize hc : conts os = C at hr
  replace hr := dV.elim hr; obtain ⟨v0, l1, y0, rfl, e0, hr⟩ := hr; obtain rfl := uvapi_Tuple_eq _ _ e0
  replace hr := dFin hr; obtain ⟨rfl, rfl, x, h, rfl⟩ := hr
  obtain rfl := kinds_nil hc
  exact ⟨_, rfl, leads150 addr_Put octet_Put tuple_Right tuple_kind hS _ x h⟩
def tuple_Put : api_Tuple → Option (List UInt8) := tuple_PutF addr_Put octet_Put tuple_Right tuple_kind
theorem lift150 : SumOK Try.prog 150 (s150 tuple_Put) := ok150 addr_Put octet_Put tuple_Right tuple_kind (SumsOK.of_tab ⟨lift110, lift109, lift155, lift156, trivial⟩)
def R04_PutF (R02_Put : Int → Int → Option (List UInt8)) (R04_Right : api_Addr → Option Bool) (a : api_Addr) : Option (List UInt8) :=
  (R04_Right a).bind fun xr =>
  cond (!xr)
    (
    some ([]))
    (
    cond (a.V6)
      (
      (R02_Put a.Hi 8).bind fun p =>
      (R02_Put a.Lo 8).bind fun p1 =>
      oreq (decide (p.length + p1.length < 2 ^ 63)) <|
      some (p ++ p1))
      (
      (R02_Put a.Lo 4).bind fun p2 =>
      some (p2)))
def rx112 (x : List UInt8) : SRes := ⟨.string ⟨⟨x⟩⟩, [], []⟩
def r112 (g : api_Addr → Option (List UInt8)) : Dec := dV uvapi_Addr fun (y0 : api_Addr) => dEnd (ofG (g y0) rx112)
theorem r112_c {g : api_Addr → Option (List UInt8)} {y0 : api_Addr} {x : List UInt8} (hx : g y0 = some x) : r112 g [.agg ⟨[.bool y0.V6, .int .u64 y0.Hi, .int .u64 y0.Lo]⟩] [] = some (rx112 x) := (dV_eq (uvapi_Addr_c _)).trans (ofG_eq hx)
def s112 (g : api_Addr → Option (List UInt8)) : Summ := ⟨[.v], r112 g⟩
theorem r112_eq {g : api_Addr → Option (List UInt8)} {y0 : api_Addr} {x : List UInt8} (hx : g y0 = some x) : (s112 g).run [.agg ⟨[.bool y0.V6, .int .u64 y0.Hi, .int .u64 y0.Lo]⟩] [] = some (rx112 x) := r112_c hx
abbrev sums112 (R02_Put : Int → Int → Option (List UInt8)) (R04_Right : api_Addr → Option Bool) : List (Nat × Summ) := [(104, s104 R02_Put), (115, s115 R04_Right)]
theorem leads112 (R02_Put : Int → Int → Option (List UInt8)) (R04_Right : api_Addr → Option Bool) (hS : SumsOK Try.prog (aget (sums112 R02_Put R04_Right))) (a : api_Addr) (res : List UInt8) (h : R04_PutF R02_Put R04_Right a = some res) :
    Leads Try.prog 112 0 ⟨⟨112, 18, [(0, .agg ⟨[.bool a.V6, .int .u64 a.Hi, .int .u64 a.Lo]⟩)], [.code k112_15], [], false, none⟩, [], [], 0⟩ (fun v H _ => Res 0 (rx112 res) v H) := by
  unfold R04_PutF at h
  refine ev_ok tab_ok hS true 3000 ?_
  conv => whnf
  replace h := obind.elim h; obtain ⟨xr, hy, h⟩ := h
  refine sumK.q rfl rfl (r115_eq hy) rfl rfl rfl ?_
  conv => whnf
  refine br.h h ?_ ?_ ?_
  · rfl
  · clear h; intro hb h; conv => whnf
    all_goals (cases h; exact Res.z rfl rfl rfl)
  clear h; intro hb h; conv => whnf
  refine br.h2 h ?_ ?_ ?_
  · rfl
  · clear h; intro hb h; conv => whnf
    replace h := obind.elim h; obtain ⟨p2, hy, h⟩ := h
    refine sumK.q rfl rfl (r104_eq hy) rfl rfl rfl ?_
    conv => whnf
    all_goals (cases h; exact Res.z rfl rfl rfl)
  clear h; intro hb h; conv => whnf
  replace h := obind.elim h; obtain ⟨p, hy, h⟩ := h
  refine sumK.q rfl rfl (r104_eq hy) rfl rfl rfl ?_
  conv => whnf
  replace h := obind.elim h; obtain ⟨p1, hy, h⟩ := h
  refine sumK.q rfl rfl (r104_eq hy) rfl rfl rfl ?_
  conv => whnf
  replace h := oreq.elim h; obtain ⟨hb, h⟩ := h
  first | (refine req.intro hb ?_; conv => whnf) | skip
  all_goals (cases h; exact Res.z rfl rfl rfl)
theorem ok112 (R02_Put : Int → Int → Option (List UInt8)) (R04_Right : api_Addr → Option Bool) (hS : SumsOK Try.prog (aget (sums112 R02_Put R04_Right))) : SumOK Try.prog 112 (s112 (R04_PutF R02_Put R04_Right)) := by
  refine SumOK.of_leads tab_ok (fun ar os r ha hr => ?_) ⟨Try.f112, rfl, by decide, rfl⟩
  replace hr : r112 (R04_PutF R02_Put R04_Right) ar (conts os) = some r := hr
  unfold r112 at hr
  generalize hc : conts os = C at hr
  replace hr := dV.elim hr; obtain ⟨v0, l1, y0, rfl, e0, hr⟩ := hr; obtain rfl := uvapi_Addr_eq _ _ e0
  replace hr := dFin hr; obtain ⟨rfl, rfl, x, h, rfl⟩ := hr
  obtain rfl := kinds_nil hc
  exact ⟨_, rfl, leads112 R02_Put R04_Right hS _ x h⟩
def R04_Put : api_Addr → Option (List UInt8) := R04_PutF R02_Put R04_Right
theorem lift112 : SumOK Try.prog 112 (s112 R04_Put) := ok112 R02_Put R04_Right (SumsOK.of_tab ⟨lift104, lift115, trivial⟩)
def R13_inF (n : Int) (most : Int) : Option Bool :=
  cond (decide (n ≥ 0))
    (
    some (decide (n ≤ most)))
    (
    some (false))
def rx153 (x : Bool) : SRes := ⟨.bool x, [], []⟩
def r153 (g : Int → Int → Option Bool) : Dec := dV (asI .i64) fun (y0 : Int) => dV (asI .i64) fun (y1 : Int) => dEnd (ofG (g y0 y1) rx153)
theorem r153_c {g : Int → Int → Option Bool} {y0 : Int} {y1 : Int} {x : Bool} (hx : g y0 y1 = some x) : r153 g [.int .i64 y0, .int .i64 y1] [] = some (rx153 x) := (dV_eq (asI_c _)).trans ((dV_eq (asI_c _)).trans (ofG_eq hx))
def s153 (g : Int → Int → Option Bool) : Summ := ⟨[.v, .v], r153 g⟩
theorem r153_eq {g : Int → Int → Option Bool} {y0 : Int} {y1 : Int} {x : Bool} (hx : g y0 y1 = some x) : (s153 g).run [.int .i64 y0, .int .i64 y1] [] = some (rx153 x) := r153_c hx
abbrev sums153 : List (Nat × Summ) := []
theorem leads153 (hS : SumsOK Try.prog (aget (sums153))) (n : Int) (most : Int) (res : Bool) (h : R13_inF n most = some res) :
    Leads Try.prog 153 0 ⟨⟨153, 12, [(0, .int .i64 n), (1, .int .i64 most)], [.code k153_3], [], false, none⟩, [], [], 0⟩ (fun v H _ => Res 0 (rx153 res) v H) := by
  unfold R13_inF at h
  refine ev_ok tab_ok hS true 3000 ?_
  conv => whnf
  refine br.h h ?_ ?_ ?_
  · rfl
  · clear h; intro hb h; conv => whnf
    all_goals (cases h; exact Res.z rfl rfl rfl)
  clear h; intro hb h; conv => whnf
  all_goals (cases h; exact Res.z rfl rfl rfl)
theorem ok153 (hS : SumsOK Try.prog (aget (sums153))) : SumOK Try.prog 153 (s153 (R13_inF)) := by
  refine SumOK.of_leads tab_ok (fun ar os r ha hr => ?_) ⟨Try.f153, rfl, by decide, rfl⟩
  replace hr : r153 (R13_inF) ar (conts os) = some r := hr
  unfold r153 at hr
  generalize hc : conts os = C at hr
  replace hr := dV.elim hr; obtain ⟨v0, l1, y0, rfl, e0, hr⟩ := hr; obtain rfl := asI_eq _ _ _ e0
  replace hr := dV.elim hr; obtain ⟨v1, l2, y1, rfl, e1, hr⟩ := hr; obtain rfl := asI_eq _ _ _ e1
  replace hr := dFin hr; obtain ⟨rfl, rfl, x, h, rfl⟩ := hr
  obtain rfl := kinds_nil hc
  exact ⟨_, rfl, leads153 hS _ _ x h⟩
def R13_in : Int → Int → Option Bool := R13_inF
theorem lift153 : SumOK Try.prog 153 (s153 R13_in) := ok153 (SumsOK.of_tab trivial)
def R13_RightF (R04_Right : api_Addr → Option Bool) (R13_in : Int → Int → Option Bool) (t : api_Tuple) : Option Bool :=
  (R13_in t.Proto 255).bind fun i =>
  cond (i)
    (
    (R04_Right t.Src).bind fun xr =>
    cond (xr)
      (
      (R04_Right t.Dst).bind fun xr1 =>
      cond (xr1)
        (
        cond (t.Src.V6 == t.Dst.V6)
          (
          (R13_in t.SPort 65535).bind fun i1 =>
          cond (i1)
            (
            (R13_in t.DPort 65535).bind fun i2 =>
            some (i2))
            (
            some (false)))
          (
          some (false)))
        (
        some (false)))
      (
      some (false)))
    (
    some (false))
def rx145 (x : Bool) : SRes := ⟨.bool x, [], []⟩
def r145 (g : api_Tuple → Option Bool) : Dec := dV uvapi_Tuple fun (y0 : api_Tuple) => dEnd (ofG (g y0) rx145)
theorem r145_c {g : api_Tuple → Option Bool} {y0 : api_Tuple} {x : Bool} (hx : g y0 = some x) : r145 g [.agg ⟨[.int .i64 y0.Proto, .bool y0.Src.V6, .int .u64 y0.Src.Hi, .int .u64 y0.Src.Lo, .bool y0.Dst.V6, .int .u64 y0.Dst.Hi, .int .u64 y0.Dst.Lo, .int .i64 y0.SPort, .int .i64 y0.DPort]⟩] [] = some (rx145 x) := (dV_eq (uvapi_Tuple_c _)).trans (ofG_eq hx)
def s145 (g : api_Tuple → Option Bool) : Summ := ⟨[.v], r145 g⟩
theorem r145_eq {g : api_Tuple → Option Bool} {y0 : api_Tuple} {x : Bool} (hx : g y0 = some x) : (s145 g).run [.agg ⟨[.int .i64 y0.Proto, .bool y0.Src.V6, .int .u64 y0.Src.Hi, .int .u64 y0.Src.Lo, .bool y0.Dst.V6, .int .u64 y0.Dst.Hi, .int .u64 y0.Dst.Lo, .int .i64 y0.SPort, .int .i64 y0.DPort]⟩] [] = some (rx145 x) := r145_c hx
abbrev sums145 (R04_Right : api_Addr → Option Bool) (R13_in : Int → Int → Option Bool) : List (Nat × Summ) := [(115, s115 R04_Right), (153, s153 R13_in)]
theorem leads145 (R04_Right : api_Addr → Option Bool) (R13_in : Int → Int → Option Bool) (hS : SumsOK Try.prog (aget (sums145 R04_Right R13_in))) (t : api_Tuple) (res : Bool) (h : R13_RightF R04_Right R13_in t = some res) :
    Leads Try.prog 145 0 ⟨⟨145, 35, [(0, .agg ⟨[.int .i64 t.Proto, .bool t.Src.V6, .int .u64 t.Src.Hi, .int .u64 t.Src.Lo, .bool t.Dst.V6, .int .u64 t.Dst.Hi, .int .u64 t.Dst.Lo, .int .i64 t.SPort, .int .i64 t.DPort]⟩)], [.code k145_3], [], false, none⟩, [], [], 0⟩ (fun v H _ => Res 0 (rx145 res) v H) := by
  unfold R13_RightF at h
  refine ev_ok tab_ok hS true 3000 ?_
  conv => whnf
  replace h := obind.elim h; obtain ⟨i, hy, h⟩ := h
  refine sumK.q rfl rfl (r153_eq hy) rfl rfl rfl ?_
  conv => whnf
  refine br.h2 h ?_ ?_ ?_
  · rfl
  · clear h; intro hb h; conv => whnf
    all_goals (cases h; exact Res.z rfl rfl rfl)
  clear h; intro hb h; conv => whnf
  replace h := obind.elim h; obtain ⟨xr, hy, h⟩ := h
  refine sumK.q rfl rfl (r115_eq hy) rfl rfl rfl ?_
  conv => whnf
  refine br.h2 h ?_ ?_ ?_
  · rfl
  · clear h; intro hb h; conv => whnf
    all_goals (cases h; exact Res.z rfl rfl rfl)
  clear h; intro hb h; conv => whnf
  replace h := obind.elim h; obtain ⟨xr1, hy, h⟩ := h
  refine sumK.q rfl rfl (r115_eq hy) rfl rfl rfl ?_
  conv => whnf
  refine br.h2 h ?_ ?_ ?_
  · rfl
  · clear h; intro hb h; conv => whnf
    all_goals (cases h; exact Res.z rfl rfl rfl)
  clear h; intro hb h; conv => whnf
  refine br.h2 h ?_ ?_ ?_
  · rfl
  · clear h; intro hb h; conv => whnf
    all_goals (cases h; exact Res.z rfl rfl rfl)
  clear h; intro hb h; conv => whnf
  replace h := obind.elim h; obtain ⟨i1, hy, h⟩ := h
  refine sumK.q rfl rfl (r153_eq hy) rfl rfl rfl ?_
  conv => whnf
  refine br.h2 h ?_ ?_ ?_
  · rfl
  · clear h; intro hb h; conv => whnf
    all_goals (cases h; exact Res.z rfl rfl rfl)
  clear h; intro hb h; conv => whnf
  replace h := obind.elim h; obtain ⟨i2, hy, h⟩ := h
  refine sumK.q rfl rfl (r153_eq hy) rfl rfl rfl ?_
  conv => whnf
  all_goals (cases h; exact Res.z rfl rfl rfl)
theorem ok145 (R04_Right : api_Addr → Option Bool) (R13_in : Int → Int → Option Bool) (hS : SumsOK Try.prog (aget (sums145 R04_Right R13_in))) : SumOK Try.prog 145 (s145 (R13_RightF R04_Right R13_in)) := by
  refine SumOK.of_leads tab_ok (fun ar os r ha hr => ?_) ⟨Try.f145, rfl, by decide, rfl⟩
  replace hr : r145 (R13_RightF R04_Right R13_in) ar (conts os) = some r := hr
  unfold r145 at hr
  generalize hc : conts os = C at hr
  replace hr := dV.elim hr; obtain ⟨v0, l1, y0, rfl, e0, hr⟩ := hr; obtain rfl := uvapi_Tuple_eq _ _ e0
  replace hr := dFin hr; obtain ⟨rfl, rfl, x, h, rfl⟩ := hr
  obtain rfl := kinds_nil hc
  exact ⟨_, rfl, leads145 R04_Right R13_in hS _ x h⟩
def R13_Right : api_Tuple → Option Bool := R13_RightF R04_Right R13_in
theorem lift145 : SumOK Try.prog 145 (s145 R13_Right) := ok145 R04_Right R13_in (SumsOK.of_tab ⟨lift115, lift153, trivial⟩)
def R13_PutF (R02_Put : Int → Int → Option (List UInt8)) (R04_Put : api_Addr → Option (List UInt8)) (R13_Right : api_Tuple → Option Bool) (t : api_Tuple) : Option (List UInt8) :=
  (R13_Right t).bind fun xr =>
  cond (!xr)
    (
    some ([]))
    (
    cond (t.Src.V6)
      (
      (R02_Put 6 1).bind fun p =>
      (R02_Put (wI .u64 t.Proto) 1).bind fun p1 =>
      oreq (decide (p.length + p1.length < 2 ^ 63)) <|
      (R04_Put t.Src).bind fun p2 =>
      oreq (decide ((p ++ p1).length + p2.length < 2 ^ 63)) <|
      (R04_Put t.Dst).bind fun p3 =>
      oreq (decide (((p ++ p1) ++ p2).length + p3.length < 2 ^ 63)) <|
      (R02_Put (wI .u64 t.SPort) 2).bind fun p4 =>
      oreq (decide ((((p ++ p1) ++ p2) ++ p3).length + p4.length < 2 ^ 63)) <|
      (R02_Put (wI .u64 t.DPort) 2).bind fun p5 =>
      oreq (decide (((((p ++ p1) ++ p2) ++ p3) ++ p4).length + p5.length < 2 ^ 63)) <|
      some (((((p ++ p1) ++ p2) ++ p3) ++ p4) ++ p5))
      (
      (R02_Put 4 1).bind fun p6 =>
      (R02_Put (wI .u64 t.Proto) 1).bind fun p7 =>
      oreq (decide (p6.length + p7.length < 2 ^ 63)) <|
      (R04_Put t.Src).bind fun p8 =>
      oreq (decide ((p6 ++ p7).length + p8.length < 2 ^ 63)) <|
      (R04_Put t.Dst).bind fun p9 =>
      oreq (decide (((p6 ++ p7) ++ p8).length + p9.length < 2 ^ 63)) <|
      (R02_Put (wI .u64 t.SPort) 2).bind fun p10 =>
      oreq (decide ((((p6 ++ p7) ++ p8) ++ p9).length + p10.length < 2 ^ 63)) <|
      (R02_Put (wI .u64 t.DPort) 2).bind fun p11 =>
      oreq (decide (((((p6 ++ p7) ++ p8) ++ p9) ++ p10).length + p11.length < 2 ^ 63)) <|
      let t1 := ((((p6 ++ p7) ++ p8) ++ p9) ++ p10) ++ p11
      some (t1)))
def rx129 (x : List UInt8) : SRes := ⟨.string ⟨⟨x⟩⟩, [], []⟩
def r129 (g : api_Tuple → Option (List UInt8)) : Dec := dV uvapi_Tuple fun (y0 : api_Tuple) => dEnd (ofG (g y0) rx129)
theorem r129_c {g : api_Tuple → Option (List UInt8)} {y0 : api_Tuple} {x : List UInt8} (hx : g y0 = some x) : r129 g [.agg ⟨[.int .i64 y0.Proto, .bool y0.Src.V6, .int .u64 y0.Src.Hi, .int .u64 y0.Src.Lo, .bool y0.Dst.V6, .int .u64 y0.Dst.Hi, .int .u64 y0.Dst.Lo, .int .i64 y0.SPort, .int .i64 y0.DPort]⟩] [] = some (rx129 x) := (dV_eq (uvapi_Tuple_c _)).trans (ofG_eq hx)
def s129 (g : api_Tuple → Option (List UInt8)) : Summ := ⟨[.v], r129 g⟩
theorem r129_eq {g : api_Tuple → Option (List UInt8)} {y0 : api_Tuple} {x : List UInt8} (hx : g y0 = some x) : (s129 g).run [.agg ⟨[.int .i64 y0.Proto, .bool y0.Src.V6, .int .u64 y0.Src.Hi, .int .u64 y0.Src.Lo, .bool y0.Dst.V6, .int .u64 y0.Dst.Hi, .int .u64 y0.Dst.Lo, .int .i64 y0.SPort, .int .i64 y0.DPort]⟩] [] = some (rx129 x) := r129_c hx
abbrev sums129 (R02_Put : Int → Int → Option (List UInt8)) (R04_Put : api_Addr → Option (List UInt8)) (R13_Right : api_Tuple → Option Bool) : List (Nat × Summ) := [(104, s104 R02_Put), (112, s112 R04_Put), (145, s145 R13_Right)]
theorem leads129 (R02_Put : Int → Int → Option (List UInt8)) (R04_Put : api_Addr → Option (List UInt8)) (R13_Right : api_Tuple → Option Bool) (hS : SumsOK Try.prog (aget (sums129 R02_Put R04_Put R13_Right))) (t : api_Tuple) (res : List UInt8) (h : R13_PutF R02_Put R04_Put R13_Right t = some res) :
    Leads Try.prog 129 0 ⟨⟨129, 35, [(0, .agg ⟨[.int .i64 t.Proto, .bool t.Src.V6, .int .u64 t.Src.Hi, .int .u64 t.Src.Lo, .bool t.Dst.V6, .int .u64 t.Dst.Hi, .int .u64 t.Dst.Lo, .int .i64 t.SPort, .int .i64 t.DPort]⟩)], [.code k129_16], [], false, none⟩, [], [], 0⟩ (fun v H _ => Res 0 (rx129 res) v H) := by
  unfold R13_PutF at h
  refine ev_ok tab_ok hS true 3000 ?_
  conv => whnf
  replace h := obind.elim h; obtain ⟨xr, hy, h⟩ := h
  refine sumK.q rfl rfl (r145_eq hy) rfl rfl rfl ?_
  conv => whnf
  refine br.h h ?_ ?_ ?_
  · rfl
  · clear h; intro hb h; conv => whnf
    all_goals (cases h; exact Res.z rfl rfl rfl)
  clear h; intro hb h; conv => whnf
  refine br.h h ?_ ?_ ?_
  · rfl
  · clear h; intro hb h; conv => whnf
    replace h := obind.elim h; obtain ⟨p, hy, h⟩ := h
    refine sumK.q rfl rfl (r104_eq hy) rfl rfl rfl ?_
    conv => whnf
    replace h := obind.elim h; obtain ⟨p1, hy, h⟩ := h
    refine sumK.q rfl rfl (r104_eq hy) rfl rfl rfl ?_
    conv => whnf
    replace h := oreq.elim h; obtain ⟨hb, h⟩ := h
    first | (refine req.intro hb ?_; conv => whnf) | skip
    replace h := obind.elim h; obtain ⟨p2, hy, h⟩ := h
    refine sumK.q rfl rfl (r112_eq hy) rfl rfl rfl ?_
    conv => whnf
    replace h := oreq.elim h; obtain ⟨hb, h⟩ := h
    first | (refine req.intro hb ?_; conv => whnf) | skip
    replace h := obind.elim h; obtain ⟨p3, hy, h⟩ := h
    refine sumK.q rfl rfl (r112_eq hy) rfl rfl rfl ?_
    conv => whnf
    replace h := oreq.elim h; obtain ⟨hb, h⟩ := h
    first | (refine req.intro hb ?_; conv => whnf) | skip
    replace h := obind.elim h; obtain ⟨p4, hy, h⟩ := h
    refine sumK.q rfl rfl (r104_eq hy) rfl rfl rfl ?_
    conv => whnf
    replace h := oreq.elim h; obtain ⟨hb, h⟩ := h
    first | (refine req.intro hb ?_; conv => whnf) | skip
    replace h := obind.elim h; obtain ⟨p5, hy, h⟩ := h
    refine sumK.q rfl rfl (r104_eq hy) rfl rfl rfl ?_
    conv => whnf
    replace h := oreq.elim h; obtain ⟨hb, h⟩ := h
    first | (refine req.intro hb ?_; conv => whnf) | skip
    all_goals (cases h; exact Res.z rfl rfl rfl)
  clear h; intro hb h; conv => whnf
  replace h := obind.elim h; obtain ⟨p6, hy, h⟩ := h
  refine sumK.q rfl rfl (r104_eq hy) rfl rfl rfl ?_
  conv => whnf
  replace h := obind.elim h; obtain ⟨p7, hy, h⟩ := h
  refine sumK.q rfl rfl (r104_eq hy) rfl rfl rfl ?_
  conv => whnf
  replace h := oreq.elim h; obtain ⟨hb, h⟩ := h
  first | (refine req.intro hb ?_; conv => whnf) | skip
  replace h := obind.elim h; obtain ⟨p8, hy, h⟩ := h
  refine sumK.q rfl rfl (r112_eq hy) rfl rfl rfl ?_
  conv => whnf
  replace h := oreq.elim h; obtain ⟨hb, h⟩ := h
  first | (refine req.intro hb ?_; conv => whnf) | skip
  replace h := obind.elim h; obtain ⟨p9, hy, h⟩ := h
  refine sumK.q rfl rfl (r112_eq hy) rfl rfl rfl ?_
  conv => whnf
  replace h := oreq.elim h; obtain ⟨hb, h⟩ := h
  first | (refine req.intro hb ?_; conv => whnf) | skip
  replace h := obind.elim h; obtain ⟨p10, hy, h⟩ := h
  refine sumK.q rfl rfl (r104_eq hy) rfl rfl rfl ?_
  conv => whnf
  replace h := oreq.elim h; obtain ⟨hb, h⟩ := h
  first | (refine req.intro hb ?_; conv => whnf) | skip
  replace h := obind.elim h; obtain ⟨p11, hy, h⟩ := h
  refine sumK.q rfl rfl (r104_eq hy) rfl rfl rfl ?_
  conv => whnf
  replace h := oreq.elim h; obtain ⟨hb, h⟩ := h
  first | (refine req.intro hb ?_; conv => whnf) | skip
  let t1 : List UInt8 := ((((p6 ++ p7) ++ p8) ++ p9) ++ p10) ++ p11
  all_goals (cases h; exact Res.z rfl rfl rfl)
theorem ok129 (R02_Put : Int → Int → Option (List UInt8)) (R04_Put : api_Addr → Option (List UInt8)) (R13_Right : api_Tuple → Option Bool) (hS : SumsOK Try.prog (aget (sums129 R02_Put R04_Put R13_Right))) : SumOK Try.prog 129 (s129 (R13_PutF R02_Put R04_Put R13_Right)) := by
  refine SumOK.of_leads tab_ok (fun ar os r ha hr => ?_) ⟨Try.f129, rfl, by decide, rfl⟩
  replace hr : r129 (R13_PutF R02_Put R04_Put R13_Right) ar (conts os) = some r := hr
  unfold r129 at hr
  generalize hc : conts os = C at hr
  replace hr := dV.elim hr; obtain ⟨v0, l1, y0, rfl, e0, hr⟩ := hr; obtain rfl := uvapi_Tuple_eq _ _ e0
  replace hr := dFin hr; obtain ⟨rfl, rfl, x, h, rfl⟩ := hr
  obtain rfl := kinds_nil hc
  exact ⟨_, rfl, leads129 R02_Put R04_Put R13_Right hS _ x h⟩
def R13_Put : api_Tuple → Option (List UInt8) := R13_PutF R02_Put R04_Put R13_Right
theorem lift129 : SumOK Try.prog 129 (s129 R13_Put) := ok129 R02_Put R04_Put R13_Right (SumsOK.of_tab ⟨lift104, lift112, lift145, trivial⟩)
def num_MaskF (k : Int) : Option Int :=
  cond (decide (k < 0))
    (
    some (0))
    (
    cond (decide (k > 64))
      (
      some (0))
      (
      oreq (decide (0 ≤ k)) <|
      let t := wI .u64 (18446744073709551615 * 2 ^ (min k.toNat 64))
      some (cmplI .u64 t)))
def rx151 (x : Int) : SRes := ⟨.int .u64 x, [], []⟩
def r151 (g : Int → Option Int) : Dec := dV (asI .i64) fun (y0 : Int) => dEnd (ofG (g y0) rx151)
theorem r151_c {g : Int → Option Int} {y0 : Int} {x : Int} (hx : g y0 = some x) : r151 g [.int .i64 y0] [] = some (rx151 x) := (dV_eq (asI_c _)).trans (ofG_eq hx)
def s151 (g : Int → Option Int) : Summ := ⟨[.v], r151 g⟩
theorem r151_eq {g : Int → Option Int} {y0 : Int} {x : Int} (hx : g y0 = some x) : (s151 g).run [.int .i64 y0] [] = some (rx151 x) := r151_c hx
abbrev sums151 : List (Nat × Summ) := []
theorem leads151 (hS : SumsOK Try.prog (aget (sums151))) (k : Int) (res : Int) (h : num_MaskF k = some res) :
    Leads Try.prog 151 0 ⟨⟨151, 12, [(0, .int .i64 k)], [.code k151_9], [], false, none⟩, [], [], 0⟩ (fun v H _ => Res 0 (rx151 res) v H) := by
  unfold num_MaskF at h
  refine ev_ok tab_ok hS true 3000 ?_
  conv => whnf
  refine br.h h ?_ ?_ ?_
  · rfl
  · clear h; intro hb h; conv => whnf
    all_goals (cases h; exact Res.z rfl rfl rfl)
  clear h; intro hb h; conv => whnf
  refine br.h h ?_ ?_ ?_
  · rfl
  · clear h; intro hb h; conv => whnf
    all_goals (cases h; exact Res.z rfl rfl rfl)
  clear h; intro hb h; conv => whnf
  replace h := oreq.elim h; obtain ⟨hb, h⟩ := h
  first | (refine req.intro hb ?_; conv => whnf) | skip
  let t : Int := wI .u64 (18446744073709551615 * 2 ^ (min k.toNat 64))
  all_goals (cases h; exact Res.z rfl rfl rfl)
theorem ok151 (hS : SumsOK Try.prog (aget (sums151))) : SumOK Try.prog 151 (s151 (num_MaskF)) := by
  refine SumOK.of_leads tab_ok (fun ar os r ha hr => ?_) ⟨Try.f151, rfl, by decide, rfl⟩
  replace hr : r151 (num_MaskF) ar (conts os) = some r := hr
  unfold r151 at hr
  generalize hc : conts os = C at hr
  replace hr := dV.elim hr; obtain ⟨v0, l1, y0, rfl, e0, hr⟩ := hr; obtain rfl := asI_eq _ _ _ e0
  replace hr := dFin hr; obtain ⟨rfl, rfl, x, h, rfl⟩ := hr
  obtain rfl := kinds_nil hc
  exact ⟨_, rfl, leads151 hS _ x h⟩
def num_Mask : Int → Option Int := num_MaskF
theorem lift151 : SumOK Try.prog 151 (s151 num_Mask) := ok151 (SumsOK.of_tab trivial)
def R01_Mask_s1 (k : Int) (n : Int) (i : Int) : Option (Sum (Int × Int) Int) :=
  cond (decide (i < k))
    (
    cond (decide (k ≤ 64))
      (
      some (.inl (iorI .u64 (wI .u64 (n * 2 ^ 1)) 1, wI .i64 (i + 1))))
      (
      some (.inr (n))))
    (
    some (.inr (n)))
def R01_MaskF (k : Int) : Option Int :=
  iter (fun st => R01_Mask_s1 k st.1 st.2) FUEL (0, 0)
def rx130 (x : Int) : SRes := ⟨.int .u64 x, [], []⟩
def r130 (g : Int → Option Int) : Dec := dV (asI .i64) fun (y0 : Int) => dEnd (ofG (g y0) rx130)
theorem r130_c {g : Int → Option Int} {y0 : Int} {x : Int} (hx : g y0 = some x) : r130 g [.int .i64 y0] [] = some (rx130 x) := (dV_eq (asI_c _)).trans (ofG_eq hx)
def s130 (g : Int → Option Int) : Summ := ⟨[.v], r130 g⟩
theorem r130_eq {g : Int → Option Int} {y0 : Int} {x : Int} (hx : g y0 = some x) : (s130 g).run [.int .i64 y0] [] = some (rx130 x) := r130_c hx
abbrev sums130 : List (Nat × Summ) := []
def head130_1 (k : Int) (n : Int) (i : Int) : VM :=
  ⟨⟨130, 18, [(0, .int .i64 k), (3, .int .u64 n), (4, .int .i64 i)], [.code k130_10, .inLoop k130_10, .inBlock 0, .code k130_15], [], false, none⟩, [], [], 0⟩
theorem loop130_1 (hS : SumsOK Try.prog (aget (sums130))) (k : Int) (res : Int) : ∀ fuel (st : Int × Int) (o : Int), iter (fun st => R01_Mask_s1 k st.1 st.2) fuel st = some o → (o = res) →
    Leads Try.prog 130 0 (head130_1 k st.1 st.2) (fun v H _ => Res 0 (rx130 res) v H) := by
  intro fuel st o h hc
  refine iter_leads (head := fun st => head130_1 k st.1 st.2) (C := fun o => (o = res)) ?_ fuel st o h hc
  clear h hc o st fuel
  intro st o h hc
  obtain ⟨n, i⟩ := st
  replace h : R01_Mask_s1 k n i = some o := h
  show Leads Try.prog 130 0 (head130_1 k n i) (fun v H _ => Res 0 (rx130 res) v H)
  unfold R01_Mask_s1 at h
  refine ev_ok tab_ok hS true 3000 ?_
  conv => whnf
  refine br.h2 h ?_ ?_ ?_
  · rfl
  · clear h; intro hb h; conv => whnf
    all_goals (cases h; cases hc; exact Res.z rfl rfl rfl)
  clear h; intro hb h; conv => whnf
  refine br.h h ?_ ?_ ?_
  · rfl
  · clear h; intro hb h; conv => whnf
    cases h; simp only [Sum.elim_inl, head130_1] at hc
    exact lrA1 hc [] rfl
  clear h; intro hb h; conv => whnf
  all_goals (cases h; cases hc; exact Res.z rfl rfl rfl)
theorem leads130 (hS : SumsOK Try.prog (aget (sums130))) (k : Int) (res : Int) (h : R01_MaskF k = some res) :
    Leads Try.prog 130 0 ⟨⟨130, 18, [(0, .int .i64 k)], [.code k130_18], [], false, none⟩, [], [], 0⟩ (fun v H _ => Res 0 (rx130 res) v H) := by
  unfold R01_MaskF at h
  refine ev_ok tab_ok hS true 3000 ?_
  conv => whnf
  have hl := loop130_1 hS _ res _ _ _ h rfl; simp only [head130_1] at hl
  exact lrA1 hl [] rfl
theorem ok130 (hS : SumsOK Try.prog (aget (sums130))) : SumOK Try.prog 130 (s130 (R01_MaskF)) := by
  refine SumOK.of_leads tab_ok (fun ar os r ha hr => ?_) ⟨Try.f130, rfl, by decide, rfl⟩
  replace hr : r130 (R01_MaskF) ar (conts os) = some r := hr
  unfold r130 at hr
  generalize hc : conts os = C at hr
  replace hr := dV.elim hr; obtain ⟨v0, l1, y0, rfl, e0, hr⟩ := hr; obtain rfl := asI_eq _ _ _ e0
  replace hr := dFin hr; obtain ⟨rfl, rfl, x, h, rfl⟩ := hr
  obtain rfl := kinds_nil hc
  exact ⟨_, rfl, leads130 hS _ x h⟩
def R01_Mask : Int → Option Int := R01_MaskF
theorem lift130 : SumOK Try.prog 130 (s130 R01_Mask) := ok130 (SumsOK.of_tab trivial)
end Go.Vm.Code
namespace Go.Vm.Code
open Go Go.Vm
def adr (a : api_Addr) : Bool := a.V6 || (decide (a.Hi = 0) && decide (a.Lo < 4294967296))
def adB (a : api_Addr) : List UInt8 := cond a.V6 (be a.Hi.toNat 8 ++ be a.Lo.toNat 8) (be a.Lo.toNat 4)
theorem adB_len (a : api_Addr) : (adB a).length ≤ 16 := by unfold adB; cases a.V6 <;> simp
theorem tuRight_eq (a : api_Addr) : addr_Right a = some (adr a) := by
  unfold addr_Right addr_RightF adr
  cases a.V6 with
  | true => rfl
  | false =>
    rw [cond_false, Bool.false_or]
    by_cases h : a.Hi = 0
    · rw [h]; rfl
    · rw [beq_eq_false_iff_ne.2 h, cond_false, decide_eq_false h]; rfl
theorem raRight_eq (a : api_Addr) : R04_Right a = some (adr a) := tuRight_eq a
def inU (a : api_Addr) : Prop := (0 ≤ a.Hi ∧ a.Hi < 2 ^ 64) ∧ 0 ≤ a.Lo ∧ a.Lo < 2 ^ 64
theorem tuPut_eq {a : api_Addr} (h : inU a) (hr : adr a = true) : addr_Put a = some (adB a) := by
  unfold addr_Put addr_PutF adB
  rw [tuRight_eq, Option.bind_some, hr, Bool.not_true, cond_false]
  cases a.V6 with
  | true =>
    rw [cond_true, octet_Put_eq h.1.1, octet_Put_eq h.2.1]
    simp only [Option.bind_some, putS]
    rw [if_pos (by omega), if_pos (by omega), oreq_p (by simp)]; rfl
  | false =>
    rw [cond_false, octet_Put_eq h.2.1]
    simp only [Option.bind_some, putS]
    rw [if_pos (by omega)]; rfl
theorem raPut_eq {a : api_Addr} (h : inU a) (hr : adr a = true) : R04_Put a = some (adB a) := by
  unfold R04_Put R04_PutF adB
  rw [raRight_eq, Option.bind_some, hr, Bool.not_true, cond_false]
  cases a.V6 with
  | true =>
    rw [cond_true, R02_Put_eq h.1.1 h.1.2, R02_Put_eq h.2.1 h.2.2]
    simp only [Option.bind_some, putS]
    rw [if_pos (by omega), if_pos (by omega), oreq_p (by simp)]; rfl
  | false =>
    rw [cond_false, R02_Put_eq h.2.1 h.2.2]
    simp only [Option.bind_some, putS]
    rw [if_pos (by omega)]; rfl
def tupR (t : api_Tuple) : Bool := decide (0 ≤ t.Proto ∧ t.Proto ≤ 255) && (decide (0 ≤ t.SPort ∧ t.SPort ≤ 65535) && (decide (0 ≤ t.DPort ∧ t.DPort ≤ 65535) && (adr t.Src && (adr t.Dst && (t.Src.V6 == t.Dst.V6)))))
def tupB (t : api_Tuple) : List UInt8 := be (cond t.Src.V6 6 4) 1 ++ be t.Proto.toNat 1 ++ adB t.Src ++ adB t.Dst ++ be t.SPort.toNat 2 ++ be t.DPort.toNat 2
def tupS (t : api_Tuple) : List UInt8 := cond (tupR t) (tupB t) []
theorem tuWithin_eq {m : Int} {l : List Int} (hl : l.length < 2 ^ 40) : tuple_within m l = some (l.all fun e => decide (0 ≤ e ∧ e ≤ m)) := by
  unfold tuple_within tuple_withinF
  have key := iter_eq (step := fun (st : Int) => tuple_within_s1 m l st) (fun st => (l.drop st.toNat).all fun e => decide (0 ≤ e ∧ e ≤ m)) (fun st => 0 ≤ st ∧ st ≤ l.length) (fun st => (l.length - st).toNat) ?_ FUEL 0 ⟨by omega, by omega⟩ (by rw [FUEL_eq]; omega)
  · rw [key]; simp
  rintro p ⟨g1, g2⟩
  obtain ⟨i, rfl⟩ := Int.eq_ofNat_of_zero_le g1
  simp only [Int.toNat_natCast]
  unfold tuple_within_s1
  by_cases hi : i < l.length
  · have e1 : ((l.drop i).all fun e => decide (0 ≤ e ∧ e ≤ m)) = (decide (0 ≤ l[i] ∧ l[i] ≤ m) && (l.drop (i + 1)).all fun e => decide (0 ≤ e ∧ e ≤ m)) := by rw [List.drop_eq_getElem_cons hi]; rfl
    by_cases h1 : l[i] < 0
    · refine .inl ?_
      simp (disch := omega) only [cond_p, oreq_p, Int.toNat_natCast, List.getElem?_eq_getElem, Option.bind_some]
      rw [e1, decide_eq_false (by omega)]; rfl
    · by_cases h2 : l[i] > m
      · refine .inl ?_
        simp (disch := omega) only [cond_p, cond_n, oreq_p, Int.toNat_natCast, List.getElem?_eq_getElem, Option.bind_some]
        rw [e1, decide_eq_false (by omega)]; rfl
      · refine .inr ⟨((i + 1 : Nat) : Int), ?_, ⟨by omega, by omega⟩, by omega, ?_⟩
        · simp (disch := omega) only [cond_p, cond_n, oreq_p, Int.toNat_natCast, List.getElem?_eq_getElem, Option.bind_some, wI64]; rfl
        · simp only [Int.toNat_natCast]
          rw [e1, decide_eq_true (by omega), Bool.true_and]
  · refine .inl ?_
    rw [cond_n (by omega), List.drop_eq_nil_of_le (by omega)]; rfl
theorem tRight_eq (t : api_Tuple) : tuple_Right t = some (tupR t) := by
  unfold tuple_Right tuple_RightF tupR
  rw [tuWithin_eq (by simp), tuWithin_eq (by simp), tuRight_eq, tuRight_eq]
  simp only [Option.bind_some, List.all_cons, List.all_nil, Bool.and_true]
  generalize decide (0 ≤ t.Proto ∧ t.Proto ≤ 255) = a
  generalize decide (0 ≤ t.SPort ∧ t.SPort ≤ 65535) = b
  generalize decide (0 ≤ t.DPort ∧ t.DPort ≤ 65535) = c
  generalize adr t.Src = d
  generalize adr t.Dst = e
  cases a <;> cases b <;> cases c <;> cases d <;> cases e <;> rfl
theorem tuIn13_eq (n m : Int) : R13_in n m = some (decide (0 ≤ n ∧ n ≤ m)) := by
  unfold R13_in R13_inF
  by_cases h : n ≥ 0
  · rw [cond_p h]; congr 1; rw [Bool.eq_iff_iff, decide_eq_true_eq, decide_eq_true_eq]; omega
  · rw [cond_n h]; congr 1; symm; exact decide_eq_false (by omega)
theorem rtRight_eq (t : api_Tuple) : R13_Right t = some (tupR t) := by
  unfold R13_Right R13_RightF tupR
  rw [tuIn13_eq, tuIn13_eq, tuIn13_eq, raRight_eq, raRight_eq]
  simp only [Option.bind_some]
  generalize decide (0 ≤ t.Proto ∧ t.Proto ≤ 255) = a
  generalize decide (0 ≤ t.SPort ∧ t.SPort ≤ 65535) = b
  generalize decide (0 ≤ t.DPort ∧ t.DPort ≤ 65535) = c
  generalize adr t.Src = d
  generalize adr t.Dst = e
  generalize (t.Src.V6 == t.Dst.V6) = f
  cases a <;> cases b <;> cases c <;> cases d <;> cases e <;> cases f <;> rfl
theorem tupR_iff {t : api_Tuple} (h : tupR t = true) : (0 ≤ t.Proto ∧ t.Proto ≤ 255) ∧ (0 ≤ t.SPort ∧ t.SPort ≤ 65535) ∧ (0 ≤ t.DPort ∧ t.DPort ≤ 65535) ∧ adr t.Src = true ∧ adr t.Dst = true := by
  unfold tupR at h
  simp only [Bool.and_eq_true, decide_eq_true_eq] at h
  exact ⟨h.1, h.2.1, h.2.2.1, h.2.2.2.1, h.2.2.2.2.1⟩
theorem tPut_eq {t : api_Tuple} (hs : inU t.Src) (hd : inU t.Dst) : tuple_Put t = some (tupS t) := by
  unfold tuple_Put tuple_PutF tupS
  rw [tRight_eq, Option.bind_some]
  cases hr : tupR t with
  | false => rfl
  | true =>
    obtain ⟨⟨a1, a2⟩, ⟨b1, b2⟩, ⟨c1, c2⟩, d, e⟩ := tupR_iff hr
    have ls := adB_len t.Src
    have ld := adB_len t.Dst
    rw [Bool.not_true, cond_false, cond_true, tuPut_eq hs d, tuPut_eq hd e]
    have ek : tuple_kind t.Src.V6 = some ((cond t.Src.V6 6 4 : Nat) : Int) := by cases t.Src.V6 <;> rfl
    have k1 : (cond t.Src.V6 6 4 : Nat) ≤ 6 := by cases t.Src.V6 <;> decide
    unfold tupB
    rw [ek]
    generalize (cond t.Src.V6 6 4 : Nat) = k at *
    simp only [Option.bind_some]
    obtain ⟨P, hP⟩ := Int.eq_ofNat_of_zero_le a1
    obtain ⟨S, hS⟩ := Int.eq_ofNat_of_zero_le b1
    obtain ⟨D, hD⟩ := Int.eq_ofNat_of_zero_le c1
    rw [hP] at a2 ⊢; rw [hS] at b2 ⊢; rw [hD] at c2 ⊢
    have e1 : wI .u64 (iorI .i64 (wI .i64 ((k : Int) * 2 ^ 8)) (P : Int)) = ((k * 256 + P : Nat) : Int) := by
      rw [wI64 (n := (k : Int) * 2 ^ 8) (by omega) (by omega), iorI64_low 8 (by omega) (by omega) (by omega) (by omega) (by omega), wU64 (by omega) (by omega)]; omega
    have e2 : iorI .u64 (wI .u64 ((wI .u64 (S : Int)) * 2 ^ 16)) (wI .u64 (D : Int)) = ((S * 65536 + D : Nat) : Int) := by
      rw [wU64 (n := (S : Int)) (by omega) (by omega), wU64 (n := (D : Int)) (by omega) (by omega), wU64 (n := (S : Int) * 2 ^ 16) (by omega) (by omega), iorU64_low 16 (by omega) (by omega) (by omega) (by omega) (by omega)]; omega
    rw [e1, e2, octet_Put_eq (by omega), octet_Put_eq (by omega)]
    simp only [Option.bind_some, putS]
    rw [if_pos (by omega), if_pos (by omega)]
    have f1 : be (k * 256 + P) 2 = be k 1 ++ be P 1 := by
      refine be_of (by simp) ?_
      rw [val_append, val_be, val_be]; simp only [be_len]; omega
    have f2 : be (S * 65536 + D) 4 = be S 2 ++ be D 2 := by
      refine be_of (by simp) ?_
      rw [val_append, val_be, val_be]; simp only [be_len]; omega
    simp only [Int.toNat_natCast, show (2 : Int).toNat = 2 from rfl, show (4 : Int).toNat = 4 from rfl, f1, f2]
    rw [oreq_p (by simp; omega), oreq_p (by simp; omega), oreq_p (by simp; omega)]
    simp
theorem rtPut_eq {t : api_Tuple} (hs : inU t.Src) (hd : inU t.Dst) : R13_Put t = some (tupS t) := by
  unfold R13_Put R13_PutF tupS
  rw [rtRight_eq, Option.bind_some]
  cases hr : tupR t with
  | false => rfl
  | true =>
    obtain ⟨⟨a1, a2⟩, ⟨b1, b2⟩, ⟨c1, c2⟩, d, e⟩ := tupR_iff hr
    have ls := adB_len t.Src
    have ld := adB_len t.Dst
    rw [Bool.not_true, cond_false, cond_true, raPut_eq hs d, raPut_eq hd e]
    unfold tupB
    rw [wU64 (n := t.Proto) (by omega) (by omega), wU64 (n := t.SPort) (by omega) (by omega), wU64 (n := t.DPort) (by omega) (by omega)]
    simp (disch := omega) only [R02_Put_eq, Option.bind_some, putS]
    simp only [show (1 : Int) ≤ 1 ∧ (1 : Int) ≤ 8 from by omega, show (1 : Int) ≤ 2 ∧ (2 : Int) ≤ 8 from by omega, and_self, if_true, show (1 : Int).toNat = 1 from rfl, show (2 : Int).toNat = 2 from rfl, show (6 : Int).toNat = 6 from rfl, show (4 : Int).toNat = 4 from rfl]
    cases t.Src.V6
    · rw [cond_false, oreq_p (by simp), oreq_p (by simp; omega), oreq_p (by simp; omega), oreq_p (by simp; omega), oreq_p (by simp; omega)]; rfl
    · rw [cond_true, oreq_p (by simp), oreq_p (by simp; omega), oreq_p (by simp; omega), oreq_p (by simp; omega), oreq_p (by simp; omega)]; rfl
theorem tupS_len (t : api_Tuple) : (tupS t).length ≤ 40 := by
  have ls := adB_len t.Src
  have ld := adB_len t.Dst
  unfold tupS tupB
  cases tupR t <;> simp <;> omega
def mskI (k : Int) : Int := if 0 ≤ k ∧ k ≤ 64 then 2 ^ k.toNat - 1 else 0
theorem mask65 : ∀ k : Fin 65, cmplI .u64 (wI .u64 (18446744073709551615 * 2 ^ (min k.val 64))) = 2 ^ k.val - 1 := by decide +kernel
theorem Mask_eq (k : Int) : num_Mask k = some (mskI k) := by
  unfold num_Mask num_MaskF mskI
  by_cases h1 : k < 0
  · rw [cond_p h1, if_neg (by omega)]
  rw [cond_n h1]
  by_cases h2 : k > 64
  · rw [cond_p h2, if_neg (by omega)]
  rw [cond_n h2, oreq_p (by omega), if_pos (by omega)]
  have := mask65 ⟨k.toNat, by omega⟩
  simp only at this ⊢
  rw [this]
theorem pow64 {i : Nat} (h : i ≤ 64) : (2 : Int) ^ i ≤ 18446744073709551616 ∧ (1 : Int) ≤ 2 ^ i := by
  have a : (2 : Nat) ^ i ≤ 2 ^ 64 := Nat.pow_le_pow_right (by decide) h
  have b : 1 ≤ (2 : Nat) ^ i := Nat.one_le_two_pow
  have e : ((2 : Int) ^ i) = ((2 ^ i : Nat) : Int) := by push_cast; rfl
  rw [e]; omega
theorem rMask_eq (k : Int) : R01_Mask k = some (mskI k) := by
  unfold R01_Mask R01_MaskF mskI
  by_cases h1 : 0 ≤ k ∧ k ≤ 64
  · rw [if_pos h1]
    obtain ⟨j, rfl⟩ := Int.eq_ofNat_of_zero_le h1.1
    rw [Int.toNat_natCast]
    refine iter_eq (step := fun (st : Int × Int) => R01_Mask_s1 (j : Int) st.1 st.2) (fun _ => (2 : Int) ^ j - 1) (fun st => ∃ i : Nat, st.2 = i ∧ i ≤ j ∧ st.1 = 2 ^ i - 1) (fun st => (j - st.2).toNat) ?_ FUEL (0, 0) ⟨0, rfl, by omega, by simp⟩ (by rw [FUEL_eq]; simp only; omega)
    rintro ⟨n, p⟩ ⟨i, g1, g2, g3⟩
    simp only at g1 g3 ⊢
    subst g1 g3
    unfold R01_Mask_s1
    by_cases hi : i < j
    · refine .inr ⟨((2 : Int) ^ (i + 1) - 1, ((i + 1 : Nat) : Int)), ?_, ⟨i + 1, rfl, by omega, rfl⟩, by simp only; omega, trivial⟩
      have a := pow64 (i := i + 1) (by omega)
      have b := pow64 (i := i) (by omega)
      have e : (2 : Int) ^ (i + 1) = 2 ^ i * 2 := Int.pow_succ _ _
      rw [e] at a ⊢
      generalize (2 : Int) ^ i = x at *
      rw [cond_p (by omega), cond_p (by omega), wI64 (by omega) (by omega), wU64 (n := (x - 1) * 2 ^ 1) (by omega) (by omega), iorU64_low 1 (by omega) (by omega) (by omega) (by omega) (by omega)]
      congr 3
      omega
    · refine .inl ?_
      obtain rfl : i = j := by omega
      rw [cond_n (by omega)]
  · rw [if_neg h1]
    show iter _ (18446744073709551615 + 1) _ = _
    rw [iter]
    have : R01_Mask_s1 k 0 0 = some (.inr 0) := by
      unfold R01_Mask_s1
      by_cases h2 : 0 < k
      · rw [cond_p h2, cond_n (by omega)]
      · rw [cond_n h2]
    simp only [this]
end Go.Vm.Code
namespace Go.Vm.Code
open Go Go.Vm Go.Proofs
set_option maxRecDepth 100000
set_option maxHeartbeats 4000000
set_option linter.unusedVariables false
def R12_turnF (n : Int) (k : Int) : Option Int :=
  oreq (decide (0 ≤ k)) <|
  oreq (decide (0 ≤ (wI .i64 (64 - k)))) <|
  let t := n.fdiv (2 ^ (min (wI .i64 (64 - k)).toNat 64))
  let t1 := iorI .u64 (wI .u64 (n * 2 ^ (min k.toNat 64))) t
  some (t1)
def rx149 (x : Int) : SRes := ⟨.int .u64 x, [], []⟩
def r149 (g : Int → Int → Option Int) : Dec := dV (asI .u64) fun (y0 : Int) => dV (asI .i64) fun (y1 : Int) => dEnd (ofG (g y0 y1) rx149)
theorem r149_c {g : Int → Int → Option Int} {y0 : Int} {y1 : Int} {x : Int} (hx : g y0 y1 = some x) : r149 g [.int .u64 y0, .int .i64 y1] [] = some (rx149 x) := (dV_eq (asI_c _)).trans ((dV_eq (asI_c _)).trans (ofG_eq hx))
def s149 (g : Int → Int → Option Int) : Summ := ⟨[.v, .v], r149 g⟩
theorem r149_eq {g : Int → Int → Option Int} {y0 : Int} {y1 : Int} {x : Int} (hx : g y0 y1 = some x) : (s149 g).run [.int .u64 y0, .int .i64 y1] [] = some (rx149 x) := r149_c hx
abbrev sums149 : List (Nat × Summ) := []
theorem leads149 (hS : SumsOK Try.prog (aget (sums149))) (n : Int) (k : Int) (res : Int) (h : R12_turnF n k = some res) :
    Leads Try.prog 149 0 ⟨⟨149, 13, [(0, .int .u64 n), (1, .int .i64 k)], [.code k149_3], [], false, none⟩, [], [], 0⟩ (fun v H _ => Res 0 (rx149 res) v H) := by
  unfold R12_turnF at h
  refine ev_ok tab_ok hS true 3000 ?_
  conv => whnf
  replace h := oreq.elim h; obtain ⟨hb, h⟩ := h
  first | (refine req.intro hb ?_; conv => whnf) | skip
  replace h := oreq.elim h; obtain ⟨hb, h⟩ := h
  first | (refine req.intro hb ?_; conv => whnf) | skip
  let t : Int := n.fdiv (2 ^ (min (wI .i64 (64 - k)).toNat 64))
  let t1 : Int := iorI .u64 (wI .u64 (n * 2 ^ (min k.toNat 64))) t
  all_goals (cases h; exact Res.z rfl rfl rfl)
theorem ok149 (hS : SumsOK Try.prog (aget (sums149))) : SumOK Try.prog 149 (s149 (R12_turnF)) := by
  refine SumOK.of_leads tab_ok (fun ar os r ha hr => ?_) ⟨Try.f149, rfl, by decide, rfl⟩
  replace hr : r149 (R12_turnF) ar (conts os) = some r := hr
  unfold r149 at hr
  generalize hc : conts os = C at hr
  replace hr := dV.elim hr; obtain ⟨v0, l1, y0, rfl, e0, hr⟩ := hr; obtain rfl := asI_eq _ _ _ e0
  replace hr := dV.elim hr; obtain ⟨v1, l2, y1, rfl, e1, hr⟩ := hr; obtain rfl := asI_eq _ _ _ e1
  replace hr := dFin hr; obtain ⟨rfl, rfl, x, h, rfl⟩ := hr
  obtain rfl := kinds_nil hc
  exact ⟨_, rfl, leads149 hS _ _ x h⟩
def R12_turn : Int → Int → Option Int := R12_turnF
theorem lift149 : SumOK Try.prog 149 (s149 R12_turn) := ok149 (SumsOK.of_tab trivial)
def R12_RoundF (R12_turn : Int → Int → Option Int) (a : Int) (b : Int) (c : Int) (d : Int) : Option (Int × Int × Int × Int) :=
  (R12_turn b 13).bind fun t =>
  (R12_turn (wI .u64 (a + b)) 32).bind fun t1 =>
  (R12_turn d 16).bind fun t2 =>
  let t3 := wI .u64 (t1 + (ixorI .u64 t2 (wI .u64 (c + d))))
  (R12_turn (ixorI .u64 t2 (wI .u64 (c + d))) 21).bind fun t4 =>
  let t5 := wI .u64 ((wI .u64 (c + d)) + (ixorI .u64 t (wI .u64 (a + b))))
  (R12_turn (ixorI .u64 t (wI .u64 (a + b))) 17).bind fun t6 =>
  (R12_turn t5 32).bind fun t7 =>
  some ((t3, ixorI .u64 t6 t5, t7, ixorI .u64 t4 t3))
def rx136 (x : Int × Int × Int × Int) : SRes := ⟨.tuple ⟨[.int .u64 x.1, .int .u64 x.2.1, .int .u64 x.2.2.1, .int .u64 x.2.2.2]⟩, [], []⟩
def r136 (g : Int → Int → Int → Int → Option (Int × Int × Int × Int)) : Dec := dV (asI .u64) fun (y0 : Int) => dV (asI .u64) fun (y1 : Int) => dV (asI .u64) fun (y2 : Int) => dV (asI .u64) fun (y3 : Int) => dEnd (ofG (g y0 y1 y2 y3) rx136)
theorem r136_c {g : Int → Int → Int → Int → Option (Int × Int × Int × Int)} {y0 : Int} {y1 : Int} {y2 : Int} {y3 : Int} {x : Int × Int × Int × Int} (hx : g y0 y1 y2 y3 = some x) : r136 g [.int .u64 y0, .int .u64 y1, .int .u64 y2, .int .u64 y3] [] = some (rx136 x) := (dV_eq (asI_c _)).trans ((dV_eq (asI_c _)).trans ((dV_eq (asI_c _)).trans ((dV_eq (asI_c _)).trans (ofG_eq hx))))
def s136 (g : Int → Int → Int → Int → Option (Int × Int × Int × Int)) : Summ := ⟨[.v, .v, .v, .v], r136 g⟩
theorem r136_eq {g : Int → Int → Int → Int → Option (Int × Int × Int × Int)} {y0 : Int} {y1 : Int} {y2 : Int} {y3 : Int} {x : Int × Int × Int × Int} (hx : g y0 y1 y2 y3 = some x) : (s136 g).run [.int .u64 y0, .int .u64 y1, .int .u64 y2, .int .u64 y3] [] = some (rx136 x) := r136_c hx
abbrev sums136 (R12_turn : Int → Int → Option Int) : List (Nat × Summ) := [(149, s149 R12_turn)]
theorem leads136 (R12_turn : Int → Int → Option Int) (hS : SumsOK Try.prog (aget (sums136 R12_turn))) (a : Int) (b : Int) (c : Int) (d : Int) (res : Int × Int × Int × Int) (h : R12_RoundF R12_turn a b c d = some res) :
    Leads Try.prog 136 0 ⟨⟨136, 48, [(0, .int .u64 a), (1, .int .u64 b), (2, .int .u64 c), (3, .int .u64 d)], [.code k136_23], [], false, none⟩, [], [], 0⟩ (fun v H _ => Res 0 (rx136 res) v H) := by
  unfold R12_RoundF at h
  refine ev_ok tab_ok hS true 3000 ?_
  conv => whnf
  replace h := obind.elim h; obtain ⟨t, hy, h⟩ := h
  refine sumK.q rfl rfl (r149_eq hy) rfl rfl rfl ?_
  conv => whnf
  replace h := obind.elim h; obtain ⟨t1, hy, h⟩ := h
  refine sumK.q rfl rfl (r149_eq hy) rfl rfl rfl ?_
  conv => whnf
  replace h := obind.elim h; obtain ⟨t2, hy, h⟩ := h
  refine sumK.q rfl rfl (r149_eq hy) rfl rfl rfl ?_
  conv => whnf
  let t3 : Int := wI .u64 (t1 + (ixorI .u64 t2 (wI .u64 (c + d))))
  replace h := obind.elim h; obtain ⟨t4, hy, h⟩ := h
  refine sumK.q rfl rfl (r149_eq hy) rfl rfl rfl ?_
  conv => whnf
  let t5 : Int := wI .u64 ((wI .u64 (c + d)) + (ixorI .u64 t (wI .u64 (a + b))))
  replace h := obind.elim h; obtain ⟨t6, hy, h⟩ := h
  refine sumK.q rfl rfl (r149_eq hy) rfl rfl rfl ?_
  conv => whnf
  replace h := obind.elim h; obtain ⟨t7, hy, h⟩ := h
  refine sumK.q rfl rfl (r149_eq hy) rfl rfl rfl ?_
  conv => whnf
  all_goals (cases h; exact Res.z rfl rfl rfl)
theorem ok136 (R12_turn : Int → Int → Option Int) (hS : SumsOK Try.prog (aget (sums136 R12_turn))) : SumOK Try.prog 136 (s136 (R12_RoundF R12_turn)) := by
  refine SumOK.of_leads tab_ok (fun ar os r ha hr => ?_) ⟨Try.f136, rfl, by decide, rfl⟩
  replace hr : r136 (R12_RoundF R12_turn) ar (conts os) = some r := hr
  unfold r136 at hr
  generalize hc : conts os = C at hr
  replace hr := dV.elim hr; obtain ⟨v0, l1, y0, rfl, e0, hr⟩ := hr; obtain rfl := asI_eq _ _ _ e0
  replace hr := dV.elim hr; obtain ⟨v1, l2, y1, rfl, e1, hr⟩ := hr; obtain rfl := asI_eq _ _ _ e1
  replace hr := dV.elim hr; obtain ⟨v2, l3, y2, rfl, e2, hr⟩ := hr; obtain rfl := asI_eq _ _ _ e2
  replace hr := dV.elim hr; obtain ⟨v3, l4, y3, rfl, e3, hr⟩ := hr; obtain rfl := asI_eq _ _ _ e3
  replace hr := dFin hr; obtain ⟨rfl, rfl, x, h, rfl⟩ := hr
  obtain rfl := kinds_nil hc
  exact ⟨_, rfl, leads136 R12_turn hS _ _ _ _ x h⟩
def R12_Round : Int → Int → Int → Int → Option (Int × Int × Int × Int) := R12_RoundF R12_turn
theorem lift136 : SumOK Try.prog 136 (s136 R12_Round) := ok136 R12_turn (SumsOK.of_tab ⟨lift149, trivial⟩)
def R12_Mix_s1 (R12_Round : Int → Int → Int → Int → Option (Int × Int × Int × Int)) (rounds : Int) (a1 : Int) (b1 : Int) (c1 : Int) (d1 : Int) (i : Int) : Option (Sum (Int × Int × Int × Int × Int) Arr4_Int) :=
  cond (decide (i < rounds))
    (
    cond (decide (i < 64))
      (
      (R12_Round a1 b1 c1 d1).bind fun xr =>
      some (.inl (xr.1, xr.2.1, xr.2.2.1, xr.2.2.2, wI .i64 (i + 1))))
      (
      some (.inr (Arr4_Int.mk a1 b1 c1 d1))))
    (
    some (.inr (Arr4_Int.mk a1 b1 c1 d1)))
def R12_MixF (R12_Round : Int → Int → Int → Int → Option (Int × Int × Int × Int)) (a : Int) (b : Int) (c : Int) (d : Int) (rounds : Int) : Option Arr4_Int :=
  iter (fun st => R12_Mix_s1 R12_Round rounds st.1 st.2.1 st.2.2.1 st.2.2.2.1 st.2.2.2.2) FUEL (a, b, c, d, 0)
def rx137 (x : Arr4_Int) : SRes := ⟨.agg ⟨[.int .u64 x.e0, .int .u64 x.e1, .int .u64 x.e2, .int .u64 x.e3]⟩, [], []⟩
def r137 (g : Int → Int → Int → Int → Int → Option Arr4_Int) : Dec := dV (asI .u64) fun (y0 : Int) => dV (asI .u64) fun (y1 : Int) => dV (asI .u64) fun (y2 : Int) => dV (asI .u64) fun (y3 : Int) => dV (asI .i64) fun (y4 : Int) => dEnd (ofG (g y0 y1 y2 y3 y4) rx137)
theorem r137_c {g : Int → Int → Int → Int → Int → Option Arr4_Int} {y0 : Int} {y1 : Int} {y2 : Int} {y3 : Int} {y4 : Int} {x : Arr4_Int} (hx : g y0 y1 y2 y3 y4 = some x) : r137 g [.int .u64 y0, .int .u64 y1, .int .u64 y2, .int .u64 y3, .int .i64 y4] [] = some (rx137 x) := (dV_eq (asI_c _)).trans ((dV_eq (asI_c _)).trans ((dV_eq (asI_c _)).trans ((dV_eq (asI_c _)).trans ((dV_eq (asI_c _)).trans (ofG_eq hx)))))
def s137 (g : Int → Int → Int → Int → Int → Option Arr4_Int) : Summ := ⟨[.v, .v, .v, .v, .v], r137 g⟩
theorem r137_eq {g : Int → Int → Int → Int → Int → Option Arr4_Int} {y0 : Int} {y1 : Int} {y2 : Int} {y3 : Int} {y4 : Int} {x : Arr4_Int} (hx : g y0 y1 y2 y3 y4 = some x) : (s137 g).run [.int .u64 y0, .int .u64 y1, .int .u64 y2, .int .u64 y3, .int .i64 y4] [] = some (rx137 x) := r137_c hx
abbrev sums137 (R12_Round : Int → Int → Int → Int → Option (Int × Int × Int × Int)) : List (Nat × Summ) := [(136, s136 R12_Round)]
def head137_1 (rounds : Int) (a1 : Int) (b1 : Int) (c1 : Int) (d1 : Int) (i : Int) : VM :=
  ⟨⟨137, 36, [(0, .int .u64 a1), (1, .int .u64 b1), (2, .int .u64 c1), (3, .int .u64 d1), (4, .int .i64 rounds), (10, .pointer (some ⟨0, 0, none⟩)), (11, .int .i64 i)], [.code k137_9, .inLoop k137_9, .inBlock 0, .code k137_14], [], false, none⟩, [], [(0, .cells [.int .u64 0, .int .u64 0, .int .u64 0, .int .u64 0])], 1⟩
theorem loop137_1 (R12_Round : Int → Int → Int → Int → Option (Int × Int × Int × Int)) (hS : SumsOK Try.prog (aget (sums137 R12_Round))) (rounds : Int) (res : Arr4_Int) : ∀ fuel (st : Int × Int × Int × Int × Int) (o : Arr4_Int), iter (fun st => R12_Mix_s1 R12_Round rounds st.1 st.2.1 st.2.2.1 st.2.2.2.1 st.2.2.2.2) fuel st = some o → (o = res) →
    Leads Try.prog 137 0 (head137_1 rounds st.1 st.2.1 st.2.2.1 st.2.2.2.1 st.2.2.2.2) (fun v H _ => Res 0 (rx137 res) v H) := by
  intro fuel st o h hc
  refine iter_leads (head := fun st => head137_1 rounds st.1 st.2.1 st.2.2.1 st.2.2.2.1 st.2.2.2.2) (C := fun o => (o = res)) ?_ fuel st o h hc
  clear h hc o st fuel
  intro st o h hc
  obtain ⟨a1, b1, c1, d1, i⟩ := st
  replace h : R12_Mix_s1 R12_Round rounds a1 b1 c1 d1 i = some o := h
  show Leads Try.prog 137 0 (head137_1 rounds a1 b1 c1 d1 i) (fun v H _ => Res 0 (rx137 res) v H)
  unfold R12_Mix_s1 at h
  refine ev_ok tab_ok hS true 3000 ?_
  conv => whnf
  refine br.h2 h ?_ ?_ ?_
  · rfl
  · clear h; intro hb h; conv => whnf
    all_goals (cases h; cases hc; exact Res.z rfl rfl rfl)
  clear h; intro hb h; conv => whnf
  refine br.h2 h ?_ ?_ ?_
  · rfl
  · clear h; intro hb h; conv => whnf
    all_goals (cases h; cases hc; exact Res.z rfl rfl rfl)
  clear h; intro hb h; conv => whnf
  replace h := obind.elim h; obtain ⟨xr, hy, h⟩ := h
  refine sumK.q rfl rfl (r136_eq hy) rfl rfl rfl ?_
  conv => whnf
  cases h; simp only [Sum.elim_inl, head137_1] at hc
  exact lrA1 hc [(0, 0)] rfl
theorem leads137 (R12_Round : Int → Int → Int → Int → Option (Int × Int × Int × Int)) (hS : SumsOK Try.prog (aget (sums137 R12_Round))) (a : Int) (b : Int) (c : Int) (d : Int) (rounds : Int) (res : Arr4_Int) (h : R12_MixF R12_Round a b c d rounds = some res) :
    Leads Try.prog 137 0 ⟨⟨137, 36, [(0, .int .u64 a), (1, .int .u64 b), (2, .int .u64 c), (3, .int .u64 d), (4, .int .i64 rounds)], [.code k137_16], [], false, none⟩, [], [], 0⟩ (fun v H _ => Res 0 (rx137 res) v H) := by
  unfold R12_MixF at h
  refine ev_ok tab_ok hS true 3000 ?_
  conv => whnf
  have hl := loop137_1 R12_Round hS _ res _ _ _ h rfl; simp only [head137_1] at hl
  exact lrA1 hl [(0, 0)] rfl
theorem ok137 (R12_Round : Int → Int → Int → Int → Option (Int × Int × Int × Int)) (hS : SumsOK Try.prog (aget (sums137 R12_Round))) : SumOK Try.prog 137 (s137 (R12_MixF R12_Round)) := by
  refine SumOK.of_leads tab_ok (fun ar os r ha hr => ?_) ⟨Try.f137, rfl, by decide, rfl⟩
  replace hr : r137 (R12_MixF R12_Round) ar (conts os) = some r := hr
  unfold r137 at hr
  generalize hc : conts os = C at hr
  replace hr := dV.elim hr; obtain ⟨v0, l1, y0, rfl, e0, hr⟩ := hr; obtain rfl := asI_eq _ _ _ e0
  replace hr := dV.elim hr; obtain ⟨v1, l2, y1, rfl, e1, hr⟩ := hr; obtain rfl := asI_eq _ _ _ e1
  replace hr := dV.elim hr; obtain ⟨v2, l3, y2, rfl, e2, hr⟩ := hr; obtain rfl := asI_eq _ _ _ e2
  replace hr := dV.elim hr; obtain ⟨v3, l4, y3, rfl, e3, hr⟩ := hr; obtain rfl := asI_eq _ _ _ e3
  replace hr := dV.elim hr; obtain ⟨v4, l5, y4, rfl, e4, hr⟩ := hr; obtain rfl := asI_eq _ _ _ e4
  replace hr := dFin hr; obtain ⟨rfl, rfl, x, h, rfl⟩ := hr
  obtain rfl := kinds_nil hc
  exact ⟨_, rfl, leads137 R12_Round hS _ _ _ _ _ x h⟩
def R12_Mix : Int → Int → Int → Int → Int → Option Arr4_Int := R12_MixF R12_Round
theorem lift137 : SumOK Try.prog 137 (s137 R12_Mix) := ok137 R12_Round (SumsOK.of_tab ⟨lift136, trivial⟩)
def sip_NewF (k : api_Key) : Option sip_Hasher :=
  some (sip_Hasher.mk true (Arr4_Int.mk (ixorI .u64 8317987319222330741 k.A) (ixorI .u64 7237128888997146477 k.B) (ixorI .u64 7816392313619706465 k.A) (ixorI .u64 8387220255154660723 k.B)) 0 0)
def rx132 (x : sip_Hasher) : SRes := ⟨.pointer (some ⟨0, 0, none⟩), [[.bool x.made, .int .u64 x.s.e0, .int .u64 x.s.e1, .int .u64 x.s.e2, .int .u64 x.s.e3, .int .u64 x.last, .int .i64 x.count]], []⟩
def r132 (g : api_Key → Option sip_Hasher) : Dec := dV uvapi_Key fun (y0 : api_Key) => dEnd (ofG (g y0) rx132)
theorem r132_c {g : api_Key → Option sip_Hasher} {y0 : api_Key} {x : sip_Hasher} (hx : g y0 = some x) : r132 g [.agg ⟨[.int .u64 y0.A, .int .u64 y0.B]⟩] [] = some (rx132 x) := (dV_eq (uvapi_Key_c _)).trans (ofG_eq hx)
def s132 (g : api_Key → Option sip_Hasher) : Summ := ⟨[.v], r132 g⟩
theorem r132_eq {g : api_Key → Option sip_Hasher} {y0 : api_Key} {x : sip_Hasher} (hx : g y0 = some x) : (s132 g).run [.agg ⟨[.int .u64 y0.A, .int .u64 y0.B]⟩] [] = some (rx132 x) := r132_c hx
abbrev sums132 : List (Nat × Summ) := []
theorem leads132 (hS : SumsOK Try.prog (aget (sums132))) (k : api_Key) (res : sip_Hasher) (h : sip_NewF k = some res) :
    Leads Try.prog 132 0 ⟨⟨132, 18, [(0, .agg ⟨[.int .u64 k.A, .int .u64 k.B]⟩)], [.code k132_3], [], false, none⟩, [], [], 0⟩ (fun v H _ => Res 0 (rx132 res) v H) := by
  unfold sip_NewF at h
  refine ev_ok tab_ok hS true 3000 ?_
  conv => whnf
  all_goals (cases h)
  all_goals exact Res.of [1] rfl (nw_s (rfl) (hs_cells rfl) nw_0) (by decide) (js_l (by decide) js_0) wr_0
theorem ok132 (hS : SumsOK Try.prog (aget (sums132))) : SumOK Try.prog 132 (s132 (sip_NewF)) := by
  refine SumOK.of_leads tab_ok (fun ar os r ha hr => ?_) ⟨Try.f132, rfl, by decide, rfl⟩
  replace hr : r132 (sip_NewF) ar (conts os) = some r := hr
  unfold r132 at hr
  generalize hc : conts os = C at hr
  replace hr := dV.elim hr; obtain ⟨v0, l1, y0, rfl, e0, hr⟩ := hr; obtain rfl := uvapi_Key_eq _ _ e0
  replace hr := dFin hr; obtain ⟨rfl, rfl, x, h, rfl⟩ := hr
  obtain rfl := kinds_nil hc
  exact ⟨_, rfl, leads132 hS _ x h⟩
def sip_New : api_Key → Option sip_Hasher := sip_NewF
theorem lift132 : SumOK Try.prog 132 (s132 sip_New) := ok132 (SumsOK.of_tab trivial)
def math_bits_RotateLeft64F (x : Int) (k : Int) : Option Int :=
  oreq (decide (0 ≤ (andI .u64 (wI .u64 k) 63))) <|
  let t := wI .u64 (x * 2 ^ (min (andI .u64 (wI .u64 k) 63).toNat 64))
  let t1 := wI .u64 (64 - (andI .u64 (wI .u64 k) 63))
  oreq (decide (0 ≤ t1)) <|
  let t2 := iorI .u64 t (x.fdiv (2 ^ (min t1.toNat 64)))
  some (t2)
def rx159 (x : Int) : SRes := ⟨.int .u64 x, [], []⟩
def r159 (g : Int → Int → Option Int) : Dec := dV (asI .u64) fun (y0 : Int) => dV (asI .i64) fun (y1 : Int) => dEnd (ofG (g y0 y1) rx159)
theorem r159_c {g : Int → Int → Option Int} {y0 : Int} {y1 : Int} {x : Int} (hx : g y0 y1 = some x) : r159 g [.int .u64 y0, .int .i64 y1] [] = some (rx159 x) := (dV_eq (asI_c _)).trans ((dV_eq (asI_c _)).trans (ofG_eq hx))
def s159 (g : Int → Int → Option Int) : Summ := ⟨[.v, .v], r159 g⟩
theorem r159_eq {g : Int → Int → Option Int} {y0 : Int} {y1 : Int} {x : Int} (hx : g y0 y1 = some x) : (s159 g).run [.int .u64 y0, .int .i64 y1] [] = some (rx159 x) := r159_c hx
abbrev sums159 : List (Nat × Summ) := []
theorem leads159 (hS : SumsOK Try.prog (aget (sums159))) (x : Int) (k : Int) (res : Int) (h : math_bits_RotateLeft64F x k = some res) :
    Leads Try.prog 159 0 ⟨⟨159, 17, [(0, .int .u64 x), (1, .int .i64 k)], [.code k159_5], [], false, none⟩, [], [], 0⟩ (fun v H _ => Res 0 (rx159 res) v H) := by
  unfold math_bits_RotateLeft64F at h
  refine ev_ok tab_ok hS true 3000 ?_
  conv => whnf
  replace h := oreq.elim h; obtain ⟨hb, h⟩ := h
  first | (refine req.intro hb ?_; conv => whnf) | skip
  let t : Int := wI .u64 (x * 2 ^ (min (andI .u64 (wI .u64 k) 63).toNat 64))
  let t1 : Int := wI .u64 (64 - (andI .u64 (wI .u64 k) 63))
  replace h := oreq.elim h; obtain ⟨hb, h⟩ := h
  first | (refine req.intro hb ?_; conv => whnf) | skip
  let t2 : Int := iorI .u64 t (x.fdiv (2 ^ (min t1.toNat 64)))
  all_goals (cases h; exact Res.z rfl rfl rfl)
theorem ok159 (hS : SumsOK Try.prog (aget (sums159))) : SumOK Try.prog 159 (s159 (math_bits_RotateLeft64F)) := by
  refine SumOK.of_leads tab_ok (fun ar os r ha hr => ?_) ⟨Try.f159, rfl, by decide, rfl⟩
  replace hr : r159 (math_bits_RotateLeft64F) ar (conts os) = some r := hr
  unfold r159 at hr
  generalize hc : conts os = C at hr
  replace hr := dV.elim hr; obtain ⟨v0, l1, y0, rfl, e0, hr⟩ := hr; obtain rfl := asI_eq _ _ _ e0
  replace hr := dV.elim hr; obtain ⟨v1, l2, y1, rfl, e1, hr⟩ := hr; obtain rfl := asI_eq _ _ _ e1
  replace hr := dFin hr; obtain ⟨rfl, rfl, x, h, rfl⟩ := hr
  obtain rfl := kinds_nil hc
  exact ⟨_, rfl, leads159 hS _ _ x h⟩
def math_bits_RotateLeft64 : Int → Int → Option Int := math_bits_RotateLeft64F
theorem lift159 : SumOK Try.prog 159 (s159 math_bits_RotateLeft64) := ok159 (SumsOK.of_tab trivial)
def sip_state_roundF (math_bits_RotateLeft64 : Int → Int → Option Int) (s : Arr4_Int) : Option Arr4_Int :=
  (math_bits_RotateLeft64 s.e1 13).bind fun xr =>
  (math_bits_RotateLeft64 (wI .u64 (s.e0 + s.e1)) 32).bind fun xr1 =>
  (math_bits_RotateLeft64 s.e3 16).bind fun xr2 =>
  let t := wI .u64 (xr1 + (ixorI .u64 xr2 (wI .u64 (s.e2 + s.e3))))
  (math_bits_RotateLeft64 (ixorI .u64 xr2 (wI .u64 (s.e2 + s.e3))) 21).bind fun xr3 =>
  let t1 := wI .u64 ((wI .u64 (s.e2 + s.e3)) + (ixorI .u64 xr (wI .u64 (s.e0 + s.e1))))
  (math_bits_RotateLeft64 (ixorI .u64 xr (wI .u64 (s.e0 + s.e1))) 17).bind fun xr4 =>
  (math_bits_RotateLeft64 t1 32).bind fun xr5 =>
  some (Arr4_Int.mk t (ixorI .u64 xr4 t1) xr5 (ixorI .u64 xr3 t))
def rx154 (x : Arr4_Int) : SRes := ⟨.tuple ⟨[]⟩, [], [some [.int .u64 x.e0, .int .u64 x.e1, .int .u64 x.e2, .int .u64 x.e3]]⟩
def r154 (g : Arr4_Int → Option Arr4_Int) : Dec := dPt 0 unArr4_Int fun (y0 : Arr4_Int) => dEnd (ofG (g y0) rx154)
theorem r154_c {g : Arr4_Int → Option Arr4_Int} {y0 : Arr4_Int} {x : Arr4_Int} (hx : g y0 = some x) : r154 g [.pointer (some ⟨0, 0, none⟩)] [some [.int .u64 y0.e0, .int .u64 y0.e1, .int .u64 y0.e2, .int .u64 y0.e3]] = some (rx154 x) := (dPt_eq (unArr4_Int_c _)).trans (ofG_eq hx)
def s154 (g : Arr4_Int → Option Arr4_Int) : Summ := ⟨[.pt 4], r154 g⟩
theorem r154_eq {g : Arr4_Int → Option Arr4_Int} {y0 : Arr4_Int} {x : Arr4_Int} (hx : g y0 = some x) : (s154 g).run [.pointer (some ⟨0, 0, none⟩)] [some [.int .u64 y0.e0, .int .u64 y0.e1, .int .u64 y0.e2, .int .u64 y0.e3]] = some (rx154 x) := r154_c hx
abbrev sums154 (math_bits_RotateLeft64 : Int → Int → Option Int) : List (Nat × Summ) := [(159, s159 math_bits_RotateLeft64)]
theorem leads154 (math_bits_RotateLeft64 : Int → Int → Option Int) (hS : SumsOK Try.prog (aget (sums154 math_bits_RotateLeft64))) (s : Arr4_Int) (res : Arr4_Int) (h : sip_state_roundF math_bits_RotateLeft64 s = some res) :
    Leads Try.prog 154 1 ⟨⟨154, 114, [(0, .pointer (some ⟨0, 0, none⟩))], [.code k154_18], [], false, none⟩, [], [(0, .cells [.int .u64 s.e0, .int .u64 s.e1, .int .u64 s.e2, .int .u64 s.e3])], 1⟩ (fun v H _ => Res 1 (rx154 res) v H) := by
  unfold sip_state_roundF at h
  refine ev_ok tab_ok hS true 3000 ?_
  conv => whnf
  replace h := obind.elim h; obtain ⟨xr, hy, h⟩ := h
  refine sumK.q rfl rfl (r159_eq hy) rfl rfl rfl ?_
  conv => whnf
  replace h := obind.elim h; obtain ⟨xr1, hy, h⟩ := h
  refine sumK.q rfl rfl (r159_eq hy) rfl rfl rfl ?_
  conv => whnf
  replace h := obind.elim h; obtain ⟨xr2, hy, h⟩ := h
  refine sumK.q rfl rfl (r159_eq hy) rfl rfl rfl ?_
  conv => whnf
  let t : Int := wI .u64 (xr1 + (ixorI .u64 xr2 (wI .u64 (s.e2 + s.e3))))
  replace h := obind.elim h; obtain ⟨xr3, hy, h⟩ := h
  refine sumK.q rfl rfl (r159_eq hy) rfl rfl rfl ?_
  conv => whnf
  let t1 : Int := wI .u64 ((wI .u64 (s.e2 + s.e3)) + (ixorI .u64 xr (wI .u64 (s.e0 + s.e1))))
  replace h := obind.elim h; obtain ⟨xr4, hy, h⟩ := h
  refine sumK.q rfl rfl (r159_eq hy) rfl rfl rfl ?_
  conv => whnf
  replace h := obind.elim h; obtain ⟨xr5, hy, h⟩ := h
  refine sumK.q rfl rfl (r159_eq hy) rfl rfl rfl ?_
  conv => whnf
  all_goals (cases h)
  all_goals exact Res.of [] rfl nw_0 (by decide) js_0 (wr_s (rfl) (hs_cells rfl) wr_0)
theorem ok154 (math_bits_RotateLeft64 : Int → Int → Option Int) (hS : SumsOK Try.prog (aget (sums154 math_bits_RotateLeft64))) : SumOK Try.prog 154 (s154 (sip_state_roundF math_bits_RotateLeft64)) := by
  refine SumOK.of_leads tab_ok (fun ar os r ha hr => ?_) ⟨Try.f154, rfl, by decide, rfl⟩
  replace hr : r154 (sip_state_roundF math_bits_RotateLeft64) ar (conts os) = some r := hr
  unfold r154 at hr
  generalize hc : conts os = C at hr
  have hq := dPt.elim hr; clear hr; obtain ⟨c0, l1, C, y0, rfl, rfl, e0, hr⟩ := hq; obtain rfl := unArr4_Int_eq _ _ e0
  replace hr := dFin hr; obtain ⟨rfl, rfl, x, h, rfl⟩ := hr
  obtain ⟨os, rfl, ha, hc⟩ := kinds_some ha hc
  obtain rfl := kinds_nil hc
  exact ⟨_, rfl, leads154 math_bits_RotateLeft64 hS _ x h⟩
def sip_state_round : Arr4_Int → Option Arr4_Int := sip_state_roundF math_bits_RotateLeft64
theorem lift154 : SumOK Try.prog 154 (s154 sip_state_round) := ok154 math_bits_RotateLeft64 (SumsOK.of_tab ⟨lift159, trivial⟩)
def sip_state_mix_s1 (sip_state_round : Arr4_Int → Option Arr4_Int) (t : Int) (t7 : Int) (s1 : Int) (s2 : Int) (s3 : Int) (s4 : Int) : Option (Sum (Int × Int × Int × Int × Int) Arr4_Int) :=
  cond (decide (t7 < t))
    (
    (sip_state_round (Arr4_Int.mk s1 s2 s3 s4)).bind fun xr =>
    some (.inl (wI .i64 (t7 + 1), xr.e0, xr.e1, xr.e2, xr.e3)))
    (
    some (.inr (Arr4_Int.mk s1 s2 s3 s4)))
def sip_state_mixF (sip_state_round : Arr4_Int → Option Arr4_Int) (s : Arr4_Int) (rounds : Int) : Option Arr4_Int :=
  let t := if (if 64 < rounds then 64 else rounds) > 0 then if 64 < rounds then 64 else rounds else 0
  iter (fun st => sip_state_mix_s1 sip_state_round t st.1 st.2.1 st.2.2.1 st.2.2.2.1 st.2.2.2.2) FUEL (0, s.e0, s.e1, s.e2, s.e3)
def rx148 (x : Arr4_Int) : SRes := ⟨.tuple ⟨[]⟩, [], [some [.int .u64 x.e0, .int .u64 x.e1, .int .u64 x.e2, .int .u64 x.e3]]⟩
def r148 (g : Arr4_Int → Int → Option Arr4_Int) : Dec := dPt 0 unArr4_Int fun (y0 : Arr4_Int) => dV (asI .i64) fun (y1 : Int) => dEnd (ofG (g y0 y1) rx148)
theorem r148_c {g : Arr4_Int → Int → Option Arr4_Int} {y0 : Arr4_Int} {y1 : Int} {x : Arr4_Int} (hx : g y0 y1 = some x) : r148 g [.pointer (some ⟨0, 0, none⟩), .int .i64 y1] [some [.int .u64 y0.e0, .int .u64 y0.e1, .int .u64 y0.e2, .int .u64 y0.e3]] = some (rx148 x) := (dPt_eq (unArr4_Int_c _)).trans ((dV_eq (asI_c _)).trans (ofG_eq hx))
def s148 (g : Arr4_Int → Int → Option Arr4_Int) : Summ := ⟨[.pt 4, .v], r148 g⟩
theorem r148_eq {g : Arr4_Int → Int → Option Arr4_Int} {y0 : Arr4_Int} {y1 : Int} {x : Arr4_Int} (hx : g y0 y1 = some x) : (s148 g).run [.pointer (some ⟨0, 0, none⟩), .int .i64 y1] [some [.int .u64 y0.e0, .int .u64 y0.e1, .int .u64 y0.e2, .int .u64 y0.e3]] = some (rx148 x) := r148_c hx
abbrev sums148 (sip_state_round : Arr4_Int → Option Arr4_Int) : List (Nat × Summ) := [(154, s154 sip_state_round)]
def head148_1 (t : Int) (t7 : Int) (s1 : Int) (s2 : Int) (s3 : Int) (s4 : Int) : VM :=
  ⟨⟨148, 12, [(0, .pointer (some ⟨0, 0, none⟩)), (6, .int .i64 t), (7, .int .i64 t7)], [.code k148_8, .inLoop k148_8, .inBlock 0], [], false, none⟩, [], [(0, .cells [.int .u64 s1, .int .u64 s2, .int .u64 s3, .int .u64 s4])], 1⟩
theorem loop148_1 (sip_state_round : Arr4_Int → Option Arr4_Int) (hS : SumsOK Try.prog (aget (sums148 sip_state_round))) (t : Int) (res : Arr4_Int) : ∀ fuel (st : Int × Int × Int × Int × Int) (o : Arr4_Int), iter (fun st => sip_state_mix_s1 sip_state_round t st.1 st.2.1 st.2.2.1 st.2.2.2.1 st.2.2.2.2) fuel st = some o → (o = res) →
    Leads Try.prog 148 1 (head148_1 t st.1 st.2.1 st.2.2.1 st.2.2.2.1 st.2.2.2.2) (fun v H _ => Res 1 (rx148 res) v H) := by
  intro fuel st o h hc
  refine iter_leads (head := fun st => head148_1 t st.1 st.2.1 st.2.2.1 st.2.2.2.1 st.2.2.2.2) (C := fun o => (o = res)) ?_ fuel st o h hc
  clear h hc o st fuel
  intro st o h hc
  obtain ⟨t7, s1, s2, s3, s4⟩ := st
  replace h : sip_state_mix_s1 sip_state_round t t7 s1 s2 s3 s4 = some o := h
  show Leads Try.prog 148 1 (head148_1 t t7 s1 s2 s3 s4) (fun v H _ => Res 1 (rx148 res) v H)
  unfold sip_state_mix_s1 at h
  refine ev_ok tab_ok hS true 3000 ?_
  conv => whnf
  refine br.h2 h ?_ ?_ ?_
  · rfl
  · clear h; intro hb h; conv => whnf
    all_goals (cases h; cases hc)
    all_goals exact Res.of [] rfl nw_0 (by decide) js_0 (wr_s (rfl) (hs_cells rfl) wr_0)
  clear h; intro hb h; conv => whnf
  replace h := obind.elim h; obtain ⟨xr, hy, h⟩ := h
  refine sumK.introF [0] (sumRun_of (aqs := [.pointer (some ⟨0, 0, none⟩)]) (ws := [.win 0 0 4 true]) (n := 0) (m := 0) (t' := 1) (ra_cons rfl rfl ra_nil) rfl (by rfl) (r154_eq hy) rfl rfl rfl rfl (wb_win rfl rfl rfl ⟨rfl, Nat.le_of_ble_eq_true rfl⟩ rfl rfl wb_nil) an_nil rfl) ?_
  conv => whnf
  cases h; simp only [Sum.elim_inl, head148_1] at hc
  exact lrA1 hc [(0, 0)] rfl
theorem leads148 (sip_state_round : Arr4_Int → Option Arr4_Int) (hS : SumsOK Try.prog (aget (sums148 sip_state_round))) (s : Arr4_Int) (rounds : Int) (res : Arr4_Int) (h : sip_state_mixF sip_state_round s rounds = some res) :
    Leads Try.prog 148 1 ⟨⟨148, 12, [(0, .pointer (some ⟨0, 0, none⟩)), (1, .int .i64 rounds)], [.code k148_11], [], false, none⟩, [], [(0, .cells [.int .u64 s.e0, .int .u64 s.e1, .int .u64 s.e2, .int .u64 s.e3])], 1⟩ (fun v H _ => Res 1 (rx148 res) v H) := by
  unfold sip_state_mixF at h
  refine ev_ok tab_ok hS true 3000 ?_
  conv => whnf
  let t : Int := if (if 64 < rounds then 64 else rounds) > 0 then if 64 < rounds then 64 else rounds else 0
  have hl := loop148_1 sip_state_round hS _ res _ _ _ h rfl; simp only [head148_1] at hl
  exact lrA1 hl [(0, 0)] rfl
theorem ok148 (sip_state_round : Arr4_Int → Option Arr4_Int) (hS : SumsOK Try.prog (aget (sums148 sip_state_round))) : SumOK Try.prog 148 (s148 (sip_state_mixF sip_state_round)) := by
  refine SumOK.of_leads tab_ok (fun ar os r ha hr => ?_) ⟨Try.f148, rfl, by decide, rfl⟩
  replace hr : r148 (sip_state_mixF sip_state_round) ar (conts os) = some r := hr
  unfold r148 at hr
  generalize hc : conts os = C at hr
  have hq := dPt.elim hr; clear hr; obtain ⟨c0, l1, C, y0, rfl, rfl, e0, hr⟩ := hq; obtain rfl := unArr4_Int_eq _ _ e0
  replace hr := dV.elim hr; obtain ⟨v1, l2, y1, rfl, e1, hr⟩ := hr; obtain rfl := asI_eq _ _ _ e1
  replace hr := dFin hr; obtain ⟨rfl, rfl, x, h, rfl⟩ := hr
  obtain ⟨os, rfl, ha, hc⟩ := kinds_some ha hc
  obtain rfl := kinds_nil hc
  exact ⟨_, rfl, leads148 sip_state_round hS _ _ x h⟩
def sip_state_mix : Arr4_Int → Int → Option Arr4_Int := sip_state_mixF sip_state_round
theorem lift148 : SumOK Try.prog 148 (s148 sip_state_mix) := ok148 sip_state_round (SumsOK.of_tab ⟨lift154, trivial⟩)
def sip_state_takeF (sip_state_mix : Arr4_Int → Int → Option Arr4_Int) (s : Arr4_Int) (m : Int) : Option Arr4_Int :=
  (sip_state_mix (Arr4_Int.mk s.e0 s.e1 s.e2 (ixorI .u64 s.e3 m)) 2).bind fun m1 =>
  some (Arr4_Int.mk (ixorI .u64 m1.e0 m) m1.e1 m1.e2 m1.e3)
def rx147 (x : Arr4_Int) : SRes := ⟨.tuple ⟨[]⟩, [], [some [.int .u64 x.e0, .int .u64 x.e1, .int .u64 x.e2, .int .u64 x.e3]]⟩
def r147 (g : Arr4_Int → Int → Option Arr4_Int) : Dec := dPt 0 unArr4_Int fun (y0 : Arr4_Int) => dV (asI .u64) fun (y1 : Int) => dEnd (ofG (g y0 y1) rx147)
theorem r147_c {g : Arr4_Int → Int → Option Arr4_Int} {y0 : Arr4_Int} {y1 : Int} {x : Arr4_Int} (hx : g y0 y1 = some x) : r147 g [.pointer (some ⟨0, 0, none⟩), .int .u64 y1] [some [.int .u64 y0.e0, .int .u64 y0.e1, .int .u64 y0.e2, .int .u64 y0.e3]] = some (rx147 x) := (dPt_eq (unArr4_Int_c _)).trans ((dV_eq (asI_c _)).trans (ofG_eq hx))
def s147 (g : Arr4_Int → Int → Option Arr4_Int) : Summ := ⟨[.pt 4, .v], r147 g⟩
theorem r147_eq {g : Arr4_Int → Int → Option Arr4_Int} {y0 : Arr4_Int} {y1 : Int} {x : Arr4_Int} (hx : g y0 y1 = some x) : (s147 g).run [.pointer (some ⟨0, 0, none⟩), .int .u64 y1] [some [.int .u64 y0.e0, .int .u64 y0.e1, .int .u64 y0.e2, .int .u64 y0.e3]] = some (rx147 x) := r147_c hx
abbrev sums147 (sip_state_mix : Arr4_Int → Int → Option Arr4_Int) : List (Nat × Summ) := [(148, s148 sip_state_mix)]
theorem leads147 (sip_state_mix : Arr4_Int → Int → Option Arr4_Int) (hS : SumsOK Try.prog (aget (sums147 sip_state_mix))) (s : Arr4_Int) (m : Int) (res : Arr4_Int) (h : sip_state_takeF sip_state_mix s m = some res) :
    Leads Try.prog 147 1 ⟨⟨147, 22, [(0, .pointer (some ⟨0, 0, none⟩)), (1, .int .u64 m)], [.code k147_4], [], false, none⟩, [], [(0, .cells [.int .u64 s.e0, .int .u64 s.e1, .int .u64 s.e2, .int .u64 s.e3])], 1⟩ (fun v H _ => Res 1 (rx147 res) v H) := by
  unfold sip_state_takeF at h
  refine ev_ok tab_ok hS true 3000 ?_
  conv => whnf
  replace h := obind.elim h; obtain ⟨m1, hy, h⟩ := h
  refine sumK.introF [0] (sumRun_of (aqs := [.pointer (some ⟨0, 0, none⟩), .int .i64 2]) (ws := [.win 0 0 4 true]) (n := 0) (m := 0) (t' := 8) (ra_cons rfl rfl (ra_cons rfl rfl ra_nil)) rfl (by rfl) (r148_eq hy) rfl rfl rfl rfl (wb_win rfl rfl rfl ⟨rfl, Nat.le_of_ble_eq_true rfl⟩ rfl rfl wb_nil) an_nil rfl) ?_
  conv => whnf
  all_goals (cases h)
  all_goals exact Res.of [] rfl nw_0 (by decide) js_0 (wr_s (rfl) (hs_cells rfl) wr_0)
theorem ok147 (sip_state_mix : Arr4_Int → Int → Option Arr4_Int) (hS : SumsOK Try.prog (aget (sums147 sip_state_mix))) : SumOK Try.prog 147 (s147 (sip_state_takeF sip_state_mix)) := by
  refine SumOK.of_leads tab_ok (fun ar os r ha hr => ?_) ⟨Try.f147, rfl, by decide, rfl⟩
  replace hr : r147 (sip_state_takeF sip_state_mix) ar (conts os) = some r := hr
  unfold r147 at hr
  generalize hc : conts os = C at hr
  have hq := dPt.elim hr; clear hr; obtain ⟨c0, l1, C, y0, rfl, rfl, e0, hr⟩ := hq; obtain rfl := unArr4_Int_eq _ _ e0
  replace hr := dV.elim hr; obtain ⟨v1, l2, y1, rfl, e1, hr⟩ := hr; obtain rfl := asI_eq _ _ _ e1
  replace hr := dFin hr; obtain ⟨rfl, rfl, x, h, rfl⟩ := hr
  obtain ⟨os, rfl, ha, hc⟩ := kinds_some ha hc
  obtain rfl := kinds_nil hc
  exact ⟨_, rfl, leads147 sip_state_mix hS _ _ x h⟩
def sip_state_take : Arr4_Int → Int → Option Arr4_Int := sip_state_takeF sip_state_mix
theorem lift147 : SumOK Try.prog 147 (s147 sip_state_take) := ok147 sip_state_mix (SumsOK.of_tab ⟨lift148, trivial⟩)
def sip_Hasher_Write_s1 (sip_state_take : Arr4_Int → Int → Option Arr4_Int) (ha0 : sip_Hasher) (s : List UInt8) (t18 : Int) (xh : Int) (xh1 : Int) (xh2 : Int) (xh3 : Int) (xh4 : Int) (xh5 : Int) : Option (Sum (Int × Int × Int × Int × Int × Int × Int) sip_Hasher) :=
  cond (decide (t18 < (s.length : Int)))
    (
    oreq (decide ((0 : Int) ≤ t18 ∧ t18 < (s.length : Int))) <|
    ((bI s)[t18.toNat]?).bind fun (e : Int) =>
    oreq (decide (0 ≤ (wI .i64 (8 * (xh5.tmod 8))))) <|
    let t := wI .u64 ((wI .u64 e) * 2 ^ (min (wI .i64 (8 * (xh5.tmod 8))).toNat 64))
    cond (((wI .i64 (xh5 + 1)).tmod 8) == 0)
      (
      (sip_state_take (Arr4_Int.mk xh xh1 xh2 xh3) (iorI .u64 xh4 t)).bind fun t1 =>
      some (.inl (wI .i64 (t18 + 1), t1.e0, t1.e1, t1.e2, t1.e3, 0, wI .i64 (xh5 + 1))))
      (
      some (.inl (wI .i64 (t18 + 1), xh, xh1, xh2, xh3, iorI .u64 xh4 t, wI .i64 (xh5 + 1)))))
    (
    some (.inr (sip_Hasher.mk ha0.made (Arr4_Int.mk xh xh1 xh2 xh3) xh4 xh5)))
def sip_Hasher_WriteF (sip_state_take : Arr4_Int → Int → Option Arr4_Int) (ha0 : sip_Hasher) (s : List UInt8) : Option sip_Hasher :=
  cond (!ha0.made)
    (
    some (ha0))
    (
    iter (fun st => sip_Hasher_Write_s1 sip_state_take ha0 s st.1 st.2.1 st.2.2.1 st.2.2.2.1 st.2.2.2.2.1 st.2.2.2.2.2.1 st.2.2.2.2.2.2) FUEL (0, ha0.s.e0, ha0.s.e1, ha0.s.e2, ha0.s.e3, ha0.last, ha0.count))
def rx133 (x : sip_Hasher) : SRes := ⟨.tuple ⟨[]⟩, [], [some [.bool x.made, .int .u64 x.s.e0, .int .u64 x.s.e1, .int .u64 x.s.e2, .int .u64 x.s.e3, .int .u64 x.last, .int .i64 x.count]]⟩
def r133 (g : sip_Hasher → (List UInt8) → Option sip_Hasher) : Dec := dPt 0 unsip_Hasher fun (y0 : sip_Hasher) => dV asS fun (y1 : List UInt8) => dEnd (ofG (g y0 y1) rx133)
theorem r133_c {g : sip_Hasher → (List UInt8) → Option sip_Hasher} {y0 : sip_Hasher} {y1 : List UInt8} {x : sip_Hasher} (hx : g y0 y1 = some x) : r133 g [.pointer (some ⟨0, 0, none⟩), .string ⟨⟨y1⟩⟩] [some [.bool y0.made, .int .u64 y0.s.e0, .int .u64 y0.s.e1, .int .u64 y0.s.e2, .int .u64 y0.s.e3, .int .u64 y0.last, .int .i64 y0.count]] = some (rx133 x) := (dPt_eq (unsip_Hasher_c _)).trans ((dV_eq (asS_c)).trans (ofG_eq hx))
def s133 (g : sip_Hasher → (List UInt8) → Option sip_Hasher) : Summ := ⟨[.pt 7, .v], r133 g⟩
theorem r133_eq {g : sip_Hasher → (List UInt8) → Option sip_Hasher} {y0 : sip_Hasher} {y1 : List UInt8} {x : sip_Hasher} (hx : g y0 y1 = some x) : (s133 g).run [.pointer (some ⟨0, 0, none⟩), .string ⟨⟨y1⟩⟩] [some [.bool y0.made, .int .u64 y0.s.e0, .int .u64 y0.s.e1, .int .u64 y0.s.e2, .int .u64 y0.s.e3, .int .u64 y0.last, .int .i64 y0.count]] = some (rx133 x) := r133_c hx
abbrev sums133 (sip_state_take : Arr4_Int → Int → Option Arr4_Int) : List (Nat × Summ) := [(147, s147 sip_state_take)]
def head133_1 (ha0 : sip_Hasher) (s : List UInt8) (t18 : Int) (xh : Int) (xh1 : Int) (xh2 : Int) (xh3 : Int) (xh4 : Int) (xh5 : Int) : VM :=
  ⟨⟨133, 63, [(0, .pointer (some ⟨0, 0, none⟩)), (16, .slice (some ⟨1, 0, none⟩) s.length 1), (17, .int .i64 (s.length : Int)), (18, .int .i64 t18)], [.code k133_22, .inLoop k133_22, .inBlock 0], [], false, none⟩, [], [(0, .cells [.bool ha0.made, .int .u64 xh, .int .u64 xh1, .int .u64 xh2, .int .u64 xh3, .int .u64 xh4, .int .i64 xh5]), (1, .row true (vI .u8 (bI s)))], 2⟩
theorem loop133_1 (sip_state_take : Arr4_Int → Int → Option Arr4_Int) (hS : SumsOK Try.prog (aget (sums133 sip_state_take))) (ha0 : sip_Hasher) (s : List UInt8) (res : sip_Hasher) : ∀ fuel (st : Int × Int × Int × Int × Int × Int × Int) (o : sip_Hasher), iter (fun st => sip_Hasher_Write_s1 sip_state_take ha0 s st.1 st.2.1 st.2.2.1 st.2.2.2.1 st.2.2.2.2.1 st.2.2.2.2.2.1 st.2.2.2.2.2.2) fuel st = some o → (o = res) →
    Leads Try.prog 133 1 (head133_1 ha0 s st.1 st.2.1 st.2.2.1 st.2.2.2.1 st.2.2.2.2.1 st.2.2.2.2.2.1 st.2.2.2.2.2.2) (fun v H _ => Res 1 (rx133 res) v H) := by
  intro fuel st o h hc
  refine iter_leads (head := fun st => head133_1 ha0 s st.1 st.2.1 st.2.2.1 st.2.2.2.1 st.2.2.2.2.1 st.2.2.2.2.2.1 st.2.2.2.2.2.2) (C := fun o => (o = res)) ?_ fuel st o h hc
  clear h hc o st fuel
  intro st o h hc
  obtain ⟨t18, xh, xh1, xh2, xh3, xh4, xh5⟩ := st
  replace h : sip_Hasher_Write_s1 sip_state_take ha0 s t18 xh xh1 xh2 xh3 xh4 xh5 = some o := h
  show Leads Try.prog 133 1 (head133_1 ha0 s t18 xh xh1 xh2 xh3 xh4 xh5) (fun v H _ => Res 1 (rx133 res) v H)
  unfold sip_Hasher_Write_s1 at h
  refine ev_ok tab_ok hS true 3000 ?_
  conv => whnf
  refine br.h2 h ?_ ?_ ?_
  · rfl
  · clear h; intro hb h; conv => whnf
    all_goals (cases h; cases hc)
    all_goals exact Res.of [] rfl nw_0 (by decide) js_0 (wr_s (rfl) (hs_cells rfl) wr_0)
  clear h; intro hb h; conv => whnf
  replace h := oreq.elim h; obtain ⟨hb, h⟩ := h
  first | (refine req.intro hb ?_; conv => whnf) | skip
  replace h := obind.elim h; obtain ⟨e, hy, h⟩ := h
  refine rd.I hy (by first | rfl | (rw [Nat.zero_add, Nat.mul_one]; try rfl; done) | omega) ?_
  conv => whnf
  replace h := oreq.elim h; obtain ⟨hb, h⟩ := h
  first | (refine req.intro hb ?_; conv => whnf) | skip
  let t : Int := wI .u64 ((wI .u64 e) * 2 ^ (min (wI .i64 (8 * (xh5.tmod 8))).toNat 64))
  refine br.h2 h ?_ ?_ ?_
  · rfl
  · clear h; intro hb h; conv => whnf
    cases h; simp only [Sum.elim_inl, head133_1] at hc
    exact lrA1 hc [(0, 0), (1, 1)] rfl
  clear h; intro hb h; conv => whnf
  replace h := obind.elim h; obtain ⟨t1, hy, h⟩ := h
  refine sumK.introF [0] (sumRun_of (aqs := [.pointer (some ⟨0, 0, none⟩), .int .u64 (iorI .u64 xh4 t)]) (ws := [.win 0 1 4 true]) (n := 0) (m := 0) (t' := 22) (ra_cons rfl rfl (ra_cons rfl rfl ra_nil)) rfl (by rfl) (r147_eq hy) rfl rfl rfl rfl (wb_win rfl rfl rfl ⟨rfl, Nat.le_of_ble_eq_true rfl⟩ rfl rfl wb_nil) an_nil rfl) ?_
  conv => whnf
  cases h; simp only [Sum.elim_inl, head133_1] at hc
  exact lrA1 hc [(0, 0), (1, 1)] rfl
theorem leads133 (sip_state_take : Arr4_Int → Int → Option Arr4_Int) (hS : SumsOK Try.prog (aget (sums133 sip_state_take))) (ha0 : sip_Hasher) (s : List UInt8) (res : sip_Hasher) (h : sip_Hasher_WriteF sip_state_take ha0 s = some res) :
    Leads Try.prog 133 1 ⟨⟨133, 63, [(0, .pointer (some ⟨0, 0, none⟩)), (1, .string ⟨⟨s⟩⟩)], [.code k133_26], [], false, none⟩, [], [(0, .cells [.bool ha0.made, .int .u64 ha0.s.e0, .int .u64 ha0.s.e1, .int .u64 ha0.s.e2, .int .u64 ha0.s.e3, .int .u64 ha0.last, .int .i64 ha0.count])], 1⟩ (fun v H _ => Res 1 (rx133 res) v H) := by
  unfold sip_Hasher_WriteF at h
  refine ev_ok tab_ok hS true 3000 ?_
  conv => whnf
  refine br.h h ?_ ?_ ?_
  · rfl
  · clear h; intro hb h; conv => whnf
    all_goals (cases h)
    all_goals exact Res.of [] rfl nw_0 (by decide) js_0 (wr_s (rfl) (hs_cells rfl) wr_0)
  clear h; intro hb h; conv => whnf
  refine pk_s2b ?_
  conv => whnf
  have hl := loop133_1 sip_state_take hS _ _ res _ _ _ h rfl; simp only [head133_1] at hl
  exact lrA1 hl [(0, 0), (1, 1)] rfl
theorem ok133 (sip_state_take : Arr4_Int → Int → Option Arr4_Int) (hS : SumsOK Try.prog (aget (sums133 sip_state_take))) : SumOK Try.prog 133 (s133 (sip_Hasher_WriteF sip_state_take)) := by
  refine SumOK.of_leads tab_ok (fun ar os r ha hr => ?_) ⟨Try.f133, rfl, by decide, rfl⟩
  replace hr : r133 (sip_Hasher_WriteF sip_state_take) ar (conts os) = some r := hr
  unfold r133 at hr
  generalize hc : conts os = C at hr
  have hq := dPt.elim hr; clear hr; obtain ⟨c0, l1, C, y0, rfl, rfl, e0, hr⟩ := hq; obtain rfl := unsip_Hasher_eq _ _ e0
  replace hr := dV.elim hr; obtain ⟨v1, l2, y1, rfl, e1, hr⟩ := hr; obtain rfl := asS_eq _ _ e1
  replace hr := dFin hr; obtain ⟨rfl, rfl, x, h, rfl⟩ := hr
  obtain ⟨os, rfl, ha, hc⟩ := kinds_some ha hc
  obtain rfl := kinds_nil hc
  exact ⟨_, rfl, leads133 sip_state_take hS _ _ x h⟩
def sip_Hasher_Write : sip_Hasher → (List UInt8) → Option sip_Hasher := sip_Hasher_WriteF sip_state_take
theorem lift133 : SumOK Try.prog 133 (s133 sip_Hasher_Write) := ok133 sip_state_take (SumsOK.of_tab ⟨lift147, trivial⟩)
def sip_Hasher_SumF (sip_state_mix : Arr4_Int → Int → Option Arr4_Int) (sip_state_take : Arr4_Int → Int → Option Arr4_Int) (ha0 : sip_Hasher) : Option (Int × sip_Hasher) :=
  cond (!ha0.made)
    (
    some ((0, ha0)))
    (
    let t := iorI .u64 ha0.last (wI .u64 ((wI .u64 ha0.count) * 2 ^ 56))
    (sip_state_take ha0.s t).bind fun t1 =>
    (sip_state_mix (Arr4_Int.mk t1.e0 t1.e1 (ixorI .u64 t1.e2 255) t1.e3) 4).bind fun m =>
    let t2 := ixorI .u64 (ixorI .u64 (ixorI .u64 m.e0 m.e1) m.e2) m.e3
    some ((t2, ha0)))
def rx134 (x : Int × sip_Hasher) : SRes := ⟨.int .u64 x.1, [], [some [.bool x.2.made, .int .u64 x.2.s.e0, .int .u64 x.2.s.e1, .int .u64 x.2.s.e2, .int .u64 x.2.s.e3, .int .u64 x.2.last, .int .i64 x.2.count]]⟩
def r134 (g : sip_Hasher → Option (Int × sip_Hasher)) : Dec := dPt 0 unsip_Hasher fun (y0 : sip_Hasher) => dEnd (ofG (g y0) rx134)
theorem r134_c {g : sip_Hasher → Option (Int × sip_Hasher)} {y0 : sip_Hasher} {x : Int × sip_Hasher} (hx : g y0 = some x) : r134 g [.pointer (some ⟨0, 0, none⟩)] [some [.bool y0.made, .int .u64 y0.s.e0, .int .u64 y0.s.e1, .int .u64 y0.s.e2, .int .u64 y0.s.e3, .int .u64 y0.last, .int .i64 y0.count]] = some (rx134 x) := (dPt_eq (unsip_Hasher_c _)).trans (ofG_eq hx)
def s134 (g : sip_Hasher → Option (Int × sip_Hasher)) : Summ := ⟨[.pt 7], r134 g⟩
theorem r134_eq {g : sip_Hasher → Option (Int × sip_Hasher)} {y0 : sip_Hasher} {x : Int × sip_Hasher} (hx : g y0 = some x) : (s134 g).run [.pointer (some ⟨0, 0, none⟩)] [some [.bool y0.made, .int .u64 y0.s.e0, .int .u64 y0.s.e1, .int .u64 y0.s.e2, .int .u64 y0.s.e3, .int .u64 y0.last, .int .i64 y0.count]] = some (rx134 x) := r134_c hx
abbrev sums134 (sip_state_mix : Arr4_Int → Int → Option Arr4_Int) (sip_state_take : Arr4_Int → Int → Option Arr4_Int) : List (Nat × Summ) := [(148, s148 sip_state_mix), (147, s147 sip_state_take)]
theorem leads134 (sip_state_mix : Arr4_Int → Int → Option Arr4_Int) (sip_state_take : Arr4_Int → Int → Option Arr4_Int) (hS : SumsOK Try.prog (aget (sums134 sip_state_mix sip_state_take))) (ha0 : sip_Hasher) (res : Int × sip_Hasher) (h : sip_Hasher_SumF sip_state_mix sip_state_take ha0 = some res) :
    Leads Try.prog 134 1 ⟨⟨134, 45, [(0, .pointer (some ⟨0, 0, none⟩))], [.code k134_17], [], false, none⟩, [], [(0, .cells [.bool ha0.made, .int .u64 ha0.s.e0, .int .u64 ha0.s.e1, .int .u64 ha0.s.e2, .int .u64 ha0.s.e3, .int .u64 ha0.last, .int .i64 ha0.count])], 1⟩ (fun v H _ => Res 1 (rx134 res) v H) := by
  unfold sip_Hasher_SumF at h
  refine ev_ok tab_ok hS true 3000 ?_
  conv => whnf
  refine br.h h ?_ ?_ ?_
  · rfl
  · clear h; intro hb h; conv => whnf
    all_goals (cases h)
    all_goals exact Res.of [] rfl nw_0 (by decide) js_0 (wr_s (rfl) (hs_cells rfl) wr_0)
  clear h; intro hb h; conv => whnf
  let t : Int := iorI .u64 ha0.last (wI .u64 ((wI .u64 ha0.count) * 2 ^ 56))
  replace h := obind.elim h; obtain ⟨t1, hy, h⟩ := h
  refine sumK.introF [1] (sumRun_of (aqs := [.pointer (some ⟨0, 0, none⟩), .int .u64 t]) (ws := [.win 1 0 4 true]) (n := 0) (m := 0) (t' := 12) (ra_cons rfl rfl (ra_cons rfl rfl ra_nil)) rfl (by rfl) (r147_eq hy) rfl rfl rfl rfl (wb_win rfl rfl rfl ⟨rfl, Nat.le_of_ble_eq_true rfl⟩ rfl rfl wb_nil) an_nil rfl) ?_
  conv => whnf
  replace h := obind.elim h; obtain ⟨m, hy, h⟩ := h
  refine sumK.introF [1] (sumRun_of (aqs := [.pointer (some ⟨0, 0, none⟩), .int .i64 4]) (ws := [.win 1 0 4 true]) (n := 0) (m := 0) (t' := 12) (ra_cons rfl rfl (ra_cons rfl rfl ra_nil)) rfl (by rfl) (r148_eq hy) rfl rfl rfl rfl (wb_win rfl rfl rfl ⟨rfl, Nat.le_of_ble_eq_true rfl⟩ rfl rfl wb_nil) an_nil rfl) ?_
  conv => whnf
  let t2 : Int := ixorI .u64 (ixorI .u64 (ixorI .u64 m.e0 m.e1) m.e2) m.e3
  all_goals (cases h)
  all_goals exact Res.of [] rfl nw_0 (by decide) js_0 (wr_s (rfl) (hs_cells rfl) wr_0)
theorem ok134 (sip_state_mix : Arr4_Int → Int → Option Arr4_Int) (sip_state_take : Arr4_Int → Int → Option Arr4_Int) (hS : SumsOK Try.prog (aget (sums134 sip_state_mix sip_state_take))) : SumOK Try.prog 134 (s134 (sip_Hasher_SumF sip_state_mix sip_state_take)) := by
  refine SumOK.of_leads tab_ok (fun ar os r ha hr => ?_) ⟨Try.f134, rfl, by decide, rfl⟩
  replace hr : r134 (sip_Hasher_SumF sip_state_mix sip_state_take) ar (conts os) = some r := hr
  unfold r134 at hr
  generalize hc : conts os = C at hr
  have hq := dPt.elim hr; clear hr; obtain ⟨c0, l1, C, y0, rfl, rfl, e0, hr⟩ := hq; obtain rfl := unsip_Hasher_eq _ _ e0
  replace hr := dFin hr; obtain ⟨rfl, rfl, x, h, rfl⟩ := hr
  obtain ⟨os, rfl, ha, hc⟩ := kinds_some ha hc
  obtain rfl := kinds_nil hc
  exact ⟨_, rfl, leads134 sip_state_mix sip_state_take hS _ x h⟩
def sip_Hasher_Sum : sip_Hasher → Option (Int × sip_Hasher) := sip_Hasher_SumF sip_state_mix sip_state_take
theorem lift134 : SumOK Try.prog 134 (s134 sip_Hasher_Sum) := ok134 sip_state_mix sip_state_take (SumsOK.of_tab ⟨lift148, lift147, trivial⟩)
end Go.Vm.Code
namespace Go.Vm.Code
open Go Go.Vm
def trn (x k : Int) : Int := (R12_turn x k).getD 0
theorem turn_eq {x k : Int} (h0 : 0 ≤ k) (h1 : k ≤ 64) : R12_turn x k = some (trn x k) := by
  unfold trn R12_turn R12_turnF
  rw [oreq_p h0, wI64 (n := 64 - k) (by omega) (by omega), oreq_p (by omega)]; rfl
theorem rot_turn {x k : Int} (h : k = 13 ∨ k = 16 ∨ k = 17 ∨ k = 21 ∨ k = 32) : math_bits_RotateLeft64 x k = R12_turn x k := by
  have e1 : andI .u64 (wI .u64 k) 63 = k := by rcases h with rfl | rfl | rfl | rfl | rfl <;> decide +kernel
  have e2 : wI .u64 (64 - k) = 64 - k := wU64 (by omega) (by omega)
  have e3 : wI .i64 (64 - k) = 64 - k := wI64 (by omega) (by omega)
  unfold math_bits_RotateLeft64 math_bits_RotateLeft64F R12_turn R12_turnF
  rw [e1, e2, e3]
theorem rot_eq {x k : Int} (h : k = 13 ∨ k = 16 ∨ k = 17 ∨ k = 21 ∨ k = 32) : math_bits_RotateLeft64 x k = some (trn x k) := by
  rw [rot_turn h]; exact turn_eq (by omega) (by omega)
def rnd (s : Arr4_Int) : Arr4_Int :=
  let a1 := wI .u64 (s.e0 + s.e1)
  let b1 := ixorI .u64 (trn s.e1 13) a1
  let c1 := wI .u64 (s.e2 + s.e3)
  let d1 := ixorI .u64 (trn s.e3 16) c1
  let t := wI .u64 (trn a1 32 + d1)
  let t1 := wI .u64 (c1 + b1)
  ⟨t, ixorI .u64 (trn b1 17) t1, trn t1 32, ixorI .u64 (trn d1 21) t⟩
theorem round_eq (s : Arr4_Int) : sip_state_round s = some (rnd s) := by
  unfold sip_state_round sip_state_roundF
  simp only [rot_eq (k := 13) (by omega), rot_eq (k := 16) (by omega), rot_eq (k := 17) (by omega), rot_eq (k := 21) (by omega), rot_eq (k := 32) (by omega), Option.bind_some]
  rfl
theorem Round_eq (a b c d : Int) : R12_Round a b c d = some ((rnd ⟨a, b, c, d⟩).e0, (rnd ⟨a, b, c, d⟩).e1, (rnd ⟨a, b, c, d⟩).e2, (rnd ⟨a, b, c, d⟩).e3) := by
  unfold R12_Round R12_RoundF
  simp only [turn_eq (k := 13) (by omega) (by omega), turn_eq (k := 16) (by omega) (by omega), turn_eq (k := 17) (by omega) (by omega), turn_eq (k := 21) (by omega) (by omega), turn_eq (k := 32) (by omega) (by omega), Option.bind_some]
  rfl
def rnds : Nat → Arr4_Int → Arr4_Int
  | 0, q => q
  | n + 1, q => rnds n (rnd q)
def cnt (n : Int) : Nat := (if (if 64 < n then 64 else n) > 0 then if 64 < n then 64 else n else 0 : Int).toNat
theorem mix_eq (s : Arr4_Int) (n : Int) : sip_state_mix s n = some (rnds (cnt n) s) := by
  unfold sip_state_mix sip_state_mixF cnt
  generalize ht : (if (if 64 < n then 64 else n) > 0 then if 64 < n then 64 else n else 0 : Int) = t
  have hb : 0 ≤ t ∧ t ≤ 64 := by rw [← ht]; split <;> split <;> omega
  have key := iter_eq (step := fun (st : Int × Int × Int × Int × Int) => sip_state_mix_s1 sip_state_round t st.1 st.2.1 st.2.2.1 st.2.2.2.1 st.2.2.2.2) (fun st => rnds (t - st.1).toNat ⟨st.2.1, st.2.2.1, st.2.2.2.1, st.2.2.2.2⟩) (fun st => 0 ≤ st.1 ∧ st.1 ≤ t) (fun st => (t - st.1).toNat) ?_ FUEL (0, s.e0, s.e1, s.e2, s.e3) ⟨by simp, hb.1⟩ (by rw [FUEL_eq]; simp only; omega)
  · simp only [] at key ⊢
    rw [key]; simp
  rintro ⟨i, a, b, c, d⟩ ⟨g1, g2⟩
  simp only at g1 g2 ⊢
  unfold sip_state_mix_s1
  by_cases hi : i < t
  · refine .inr ⟨(i + 1, (rnd ⟨a, b, c, d⟩).e0, (rnd ⟨a, b, c, d⟩).e1, (rnd ⟨a, b, c, d⟩).e2, (rnd ⟨a, b, c, d⟩).e3), ?_, ⟨by simp only; omega, by simp only; omega⟩, by simp only; omega, ?_⟩
    · rw [cond_p hi, round_eq, Option.bind_some, wI64 (by omega) (by omega)]
    · simp only []
      have e : (t - i).toNat = (t - (i + 1)).toNat + 1 := by omega
      rw [e]; rfl
  · refine .inl ?_
    rw [cond_n hi]
    have e : (t - i).toNat = 0 := by omega
    simp only [e, rnds]
theorem Mix_eq (a b c d n : Int) : R12_Mix a b c d n = some (rnds (cnt n) ⟨a, b, c, d⟩) := by
  unfold R12_Mix R12_MixF
  have hc : ∀ i : Int, 0 ≤ i → i ≤ cnt n → (i < cnt n ↔ i < n ∧ i < 64) := by
    intro i h0 h1
    revert h1
    unfold cnt
    split <;> split <;> omega
  have hb : (cnt n : Int) ≤ 64 := by unfold cnt; split <;> split <;> omega
  have key := iter_eq (step := fun (st : Int × Int × Int × Int × Int) => R12_Mix_s1 R12_Round n st.1 st.2.1 st.2.2.1 st.2.2.2.1 st.2.2.2.2) (fun st => rnds (cnt n - st.2.2.2.2).toNat ⟨st.1, st.2.1, st.2.2.1, st.2.2.2.1⟩) (fun st => 0 ≤ st.2.2.2.2 ∧ st.2.2.2.2 ≤ cnt n) (fun st => (cnt n - st.2.2.2.2).toNat) ?_ FUEL (a, b, c, d, 0) ⟨by simp, by simp⟩ (by rw [FUEL_eq]; simp only; omega)
  · rw [key]; simp
  rintro ⟨a, b, c, d, i⟩ ⟨g1, g2⟩
  simp only at g1 g2 ⊢
  unfold R12_Mix_s1
  have hh := hc i g1 g2
  by_cases hi : i < cnt n
  · obtain ⟨h1, h2⟩ := hh.1 hi
    refine .inr ⟨((rnd ⟨a, b, c, d⟩).e0, (rnd ⟨a, b, c, d⟩).e1, (rnd ⟨a, b, c, d⟩).e2, (rnd ⟨a, b, c, d⟩).e3, i + 1), ?_, ⟨by simp only; omega, by simp only; omega⟩, by simp only; omega, ?_⟩
    · rw [cond_p h1, cond_p h2, Round_eq, Option.bind_some, wI64 (by omega) (by omega)]
    · simp only []
      have e : ((cnt n : Int) - i).toNat = ((cnt n : Int) - (i + 1)).toNat + 1 := by omega
      rw [e]; rfl
  · refine .inl ?_
    have e : ((cnt n : Int) - i).toNat = 0 := by omega
    simp only [e, rnds]
    by_cases h1 : i < n
    · rw [cond_p h1, cond_n (by omega)]
    · rw [cond_n h1]
def tak (s : Arr4_Int) (m : Int) : Arr4_Int :=
  let q := rnds 2 ⟨s.e0, s.e1, s.e2, ixorI .u64 s.e3 m⟩
  ⟨ixorI .u64 q.e0 m, q.e1, q.e2, q.e3⟩
theorem take_eq (s : Arr4_Int) (m : Int) : sip_state_take s m = some (tak s m) := by
  unfold sip_state_take sip_state_takeF
  rw [mix_eq, show cnt 2 = 2 from rfl, Option.bind_some]
  simp only [tak]
def wrT (T : Arr4_Int → Int → Arr4_Int) (h : sip_Hasher) (b : UInt8) : sip_Hasher :=
  let m := iorI .u64 h.last (wI .u64 ((b.toNat : Int) * 2 ^ (8 * (h.count.toNat % 8))))
  if (h.count.toNat + 1) % 8 = 0 then ⟨h.made, T h.s m, 0, h.count + 1⟩ else ⟨h.made, h.s, m, h.count + 1⟩
theorem WriteF_eq (T : Arr4_Int → Int → Arr4_Int) {h : sip_Hasher} {s : List UInt8} (hm : h.made = true) (h0 : 0 ≤ h.count) (h1 : h.count + s.length < 2 ^ 62) : sip_Hasher_WriteF (fun q m => some (T q m)) h s = some (s.foldl (wrT T) h) := by
  unfold sip_Hasher_WriteF
  rw [hm, Bool.not_true, cond_false]
  have key := iter_eq (step := fun (st : Int × Int × Int × Int × Int × Int × Int) => sip_Hasher_Write_s1 (fun q m => some (T q m)) h s st.1 st.2.1 st.2.2.1 st.2.2.2.1 st.2.2.2.2.1 st.2.2.2.2.2.1 st.2.2.2.2.2.2)
    (fun st => (s.drop st.1.toNat).foldl (wrT T) ⟨true, ⟨st.2.1, st.2.2.1, st.2.2.2.1, st.2.2.2.2.1⟩, st.2.2.2.2.2.1, st.2.2.2.2.2.2⟩) (fun st => 0 ≤ st.1 ∧ st.1 ≤ s.length ∧ st.2.2.2.2.2.2 = h.count + st.1) (fun st => (s.length - st.1).toNat) ?_ FUEL (0, h.s.e0, h.s.e1, h.s.e2, h.s.e3, h.last, h.count) ⟨by simp, by simp, by simp⟩ (by rw [FUEL_eq]; simp only; omega)
  · rw [key]
    simp only [Int.toNat_zero, List.drop_zero]
    rw [← hm]
  rintro ⟨p, a, b, c, d, l, n⟩ ⟨g1, g2, g3⟩
  simp only at g1 g2 g3 ⊢
  obtain ⟨i, rfl⟩ := Int.eq_ofNat_of_zero_le g1
  obtain ⟨k, hk⟩ := Int.eq_ofNat_of_zero_le (show 0 ≤ n by omega)
  subst hk
  simp only [Int.toNat_natCast]
  unfold sip_Hasher_Write_s1
  by_cases hi : i < s.length
  · have hb := s[i].toNat_lt
    have e1 : (bI s)[i]? = some (s[i].toNat : Int) := by simp [bI, hi]
    have e2 : ((k : Int).tmod 8) = ((k % 8 : Nat) : Int) := by rw [Int.tmod_eq_emod_of_nonneg (by omega)]; rfl
    have e3 : min (8 * ((k % 8 : Nat) : Int)).toNat 64 = 8 * (k % 8) := by omega
    have e4 : (((k : Int) + 1).tmod 8 == 0) = decide ((k + 1) % 8 = 0) := by
      rw [Int.tmod_eq_emod_of_nonneg (by omega), Bool.eq_iff_iff, beq_iff_eq, decide_eq_true_eq]; omega
    refine .inr ⟨(((i + 1 : Nat) : Int), (wrT T ⟨true, ⟨a, b, c, d⟩, l, k⟩ s[i]).s.e0, (wrT T ⟨true, ⟨a, b, c, d⟩, l, k⟩ s[i]).s.e1, (wrT T ⟨true, ⟨a, b, c, d⟩, l, k⟩ s[i]).s.e2, (wrT T ⟨true, ⟨a, b, c, d⟩, l, k⟩ s[i]).s.e3, (wrT T ⟨true, ⟨a, b, c, d⟩, l, k⟩ s[i]).last, (k : Int) + 1), ?_, ⟨by simp only; omega, by simp only; omega, by simp only; omega⟩, by simp only; omega, ?_⟩
    · simp (disch := omega) only [cond_p, oreq_p, Int.toNat_natCast, e1, Option.bind_some, e2, wI64, e3, e4, wU64 (n := (s[i].toNat : Int)), cond_dec]
      unfold wrT
      simp only [Int.toNat_natCast]
      split <;> rfl
    · simp only [Int.toNat_natCast]
      rw [List.drop_eq_getElem_cons hi, List.foldl_cons]
      congr 1
      unfold wrT
      simp only [Int.toNat_natCast]
      split <;> rfl
  · refine .inl ?_
    rw [cond_n (by omega), List.drop_eq_nil_of_le (by omega), hm]; rfl
def wrB : sip_Hasher → UInt8 → sip_Hasher := wrT tak
theorem Write_eq {h : sip_Hasher} {s : List UInt8} (hm : h.made = true) (h0 : 0 ≤ h.count) (h1 : h.count + s.length < 2 ^ 62) : sip_Hasher_Write h s = some (s.foldl wrB h) := by
  unfold sip_Hasher_Write
  rw [show sip_state_take = fun q m => some (tak q m) from funext fun q => funext fun m => take_eq q m]
  exact WriteF_eq tak hm h0 h1
theorem wrT_made (T : Arr4_Int → Int → Arr4_Int) (h : sip_Hasher) (b : UInt8) : (wrT T h b).made = h.made := by unfold wrT; simp only; split <;> rfl
theorem wrT_count (T : Arr4_Int → Int → Arr4_Int) (h : sip_Hasher) (b : UInt8) : (wrT T h b).count = h.count + 1 := by unfold wrT; simp only; split <;> rfl
theorem wrB_made (h : sip_Hasher) (b : UInt8) : (wrB h b).made = h.made := wrT_made tak h b
theorem wrB_count (h : sip_Hasher) (b : UInt8) : (wrB h b).count = h.count + 1 := wrT_count tak h b
theorem wrL : ∀ (s : List UInt8) (h : sip_Hasher), (s.foldl wrB h).made = h.made ∧ (s.foldl wrB h).count = h.count + s.length
  | [], h => ⟨rfl, by simp⟩
  | b :: s, h => by
    obtain ⟨a1, a2⟩ := wrL s (wrB h b)
    rw [List.foldl_cons, a1, a2, wrB_made, wrB_count, List.length_cons]
    exact ⟨rfl, by omega⟩
def sumV (h : sip_Hasher) : Int :=
  let t := tak h.s (iorI .u64 h.last (wI .u64 ((wI .u64 h.count) * 2 ^ 56)))
  let m := rnds 4 ⟨t.e0, t.e1, ixorI .u64 t.e2 255, t.e3⟩
  ixorI .u64 (ixorI .u64 (ixorI .u64 m.e0 m.e1) m.e2) m.e3
theorem Sum_eq {h : sip_Hasher} (hm : h.made = true) : sip_Hasher_Sum h = some (sumV h, h) := by
  unfold sip_Hasher_Sum sip_Hasher_SumF
  rw [hm, Bool.not_true, cond_false]
  simp only [take_eq, mix_eq, Option.bind_some, show cnt 4 = 4 from rfl, sumV]
def newV (k : api_Key) : sip_Hasher := ⟨true, ⟨ixorI .u64 8317987319222330741 k.A, ixorI .u64 7237128888997146477 k.B, ixorI .u64 7816392313619706465 k.A, ixorI .u64 8387220255154660723 k.B⟩, 0, 0⟩
theorem New_eq (k : api_Key) : sip_New k = some (newV k) := rfl
end Go.Vm.Code
namespace Go.Vm.Code
open Go Go.Vm Go.Proofs
set_option maxRecDepth 100000
set_option maxHeartbeats 4000000
set_option linter.unusedVariables false
def R12_word_s1 (s : List UInt8) (n : Int) (i : Int) : Option (Sum (Int × Int) Int) :=
  cond (decide (i ≥ 0))
    (
    oreq (decide (0 ≤ i)) <|
    (s[i.toNat]?).bind fun (b : UInt8) =>
    let t := wI .u64 ((wI .u64 (n * 2 ^ 8)) + (wI .u64 (b.toNat : Int)))
    some (.inl (t, wI .i64 (i - 1))))
    (
    some (.inr (n)))
def R12_wordF (s : List UInt8) : Option Int :=
  iter (fun st => R12_word_s1 s st.1 st.2) FUEL (0, wI .i64 ((s.length : Int) - 1))
def rx135 (x : Int) : SRes := ⟨.int .u64 x, [], []⟩
def r135 (g : (List UInt8) → Option Int) : Dec := dV asS fun (y0 : List UInt8) => dEnd (ofG (g y0) rx135)
theorem r135_c {g : (List UInt8) → Option Int} {y0 : List UInt8} {x : Int} (hx : g y0 = some x) : r135 g [.string ⟨⟨y0⟩⟩] [] = some (rx135 x) := (dV_eq (asS_c)).trans (ofG_eq hx)
def s135 (g : (List UInt8) → Option Int) : Summ := ⟨[.v], r135 g⟩
theorem r135_eq {g : (List UInt8) → Option Int} {y0 : List UInt8} {x : Int} (hx : g y0 = some x) : (s135 g).run [.string ⟨⟨y0⟩⟩] [] = some (rx135 x) := r135_c hx
abbrev sums135 : List (Nat × Summ) := []
def head135_1 (s : List UInt8) (n : Int) (i : Int) : VM :=
  ⟨⟨135, 20, [(0, .string ⟨⟨s⟩⟩), (3, .int .u64 n), (4, .int .i64 i)], [.code k135_10, .inLoop k135_10, .inBlock 0, .code k135_15], [], false, none⟩, [], [], 0⟩
theorem loop135_1 (hS : SumsOK Try.prog (aget (sums135))) (s : List UInt8) (res : Int) : ∀ fuel (st : Int × Int) (o : Int), iter (fun st => R12_word_s1 s st.1 st.2) fuel st = some o → (o = res) →
    Leads Try.prog 135 0 (head135_1 s st.1 st.2) (fun v H _ => Res 0 (rx135 res) v H) := by
  intro fuel st o h hc
  refine iter_leads (head := fun st => head135_1 s st.1 st.2) (C := fun o => (o = res)) ?_ fuel st o h hc
  clear h hc o st fuel
  intro st o h hc
  obtain ⟨n, i⟩ := st
  replace h : R12_word_s1 s n i = some o := h
  show Leads Try.prog 135 0 (head135_1 s n i) (fun v H _ => Res 0 (rx135 res) v H)
  unfold R12_word_s1 at h
  refine ev_ok tab_ok hS true 3000 ?_
  conv => whnf
  refine br.h2 h ?_ ?_ ?_
  · rfl
  · clear h; intro hb h; conv => whnf
    all_goals (cases h; cases hc; exact Res.z rfl rfl rfl)
  clear h; intro hb h; conv => whnf
  replace h := oreq.elim h; obtain ⟨hb, h⟩ := h
  first | (refine req.intro hb ?_; conv => whnf) | skip
  replace h := obind.elim h; obtain ⟨b, hy, h⟩ := h
  refine rdS.intro hy ?_
  conv => whnf
  let t : Int := wI .u64 ((wI .u64 (n * 2 ^ 8)) + (wI .u64 (b.toNat : Int)))
  cases h; simp only [Sum.elim_inl, head135_1] at hc
  exact lrA1 hc [] rfl
theorem leads135 (hS : SumsOK Try.prog (aget (sums135))) (s : List UInt8) (res : Int) (h : R12_wordF s = some res) :
    Leads Try.prog 135 0 ⟨⟨135, 20, [(0, .string ⟨⟨s⟩⟩)], [.code k135_18], [], false, none⟩, [], [], 0⟩ (fun v H _ => Res 0 (rx135 res) v H) := by
  unfold R12_wordF at h
  refine ev_ok tab_ok hS true 3000 ?_
  conv => whnf
  have hl := loop135_1 hS _ res _ _ _ h rfl; simp only [head135_1] at hl
  exact lrA1 hl [] rfl
theorem ok135 (hS : SumsOK Try.prog (aget (sums135))) : SumOK Try.prog 135 (s135 (R12_wordF)) := by
  refine SumOK.of_leads tab_ok (fun ar os r ha hr => ?_) ⟨Try.f135, rfl, by decide, rfl⟩
  replace hr : r135 (R12_wordF) ar (conts os) = some r := hr
  unfold r135 at hr
  generalize hc : conts os = C at hr
  replace hr := dV.elim hr; obtain ⟨v0, l1, y0, rfl, e0, hr⟩ := hr; obtain rfl := asS_eq _ _ e0
  replace hr := dFin hr; obtain ⟨rfl, rfl, x, h, rfl⟩ := hr
  obtain rfl := kinds_nil hc
  exact ⟨_, rfl, leads135 hS _ x h⟩
def R12_word : (List UInt8) → Option Int := R12_wordF
theorem lift135 : SumOK Try.prog 135 (s135 R12_word) := ok135 (SumsOK.of_tab trivial)
def R12_Hash_s1 (R12_Round : Int → Int → Int → Int → Option (Int × Int × Int × Int)) (s : List UInt8) (t : Int) (i : Int) (a1 : Int) (b1 : Int) (c1 : Int) (d1 : Int) (m : Int) (n : Int) : Option (Sum (Int × Int × Int × Int × Int × Int) (Sum (Int × Int × Int × Int × Int) Int)) :=
  cond (decide (n < 2))
    (
    (R12_Round a1 b1 c1 d1).bind fun xr =>
    some (.inl (xr.1, xr.2.1, xr.2.2.1, xr.2.2.2, m, wI .i64 (n + 1))))
    (
    some (.inr (.inl (ixorI .u64 a1 m, b1, c1, d1, wI .i64 (i + 8)))))
def R12_Hash_s2 (R12_Mix : Int → Int → Int → Int → Int → Option Arr4_Int) (R12_Round : Int → Int → Int → Int → Option (Int × Int × Int × Int)) (R12_word : (List UInt8) → Option Int) (s : List UInt8) (t : Int) (a : Int) (b : Int) (c : Int) (d : Int) (i : Int) : Option (Sum (Int × Int × Int × Int × Int) Int) :=
  cond (decide (i ≤ t))
    (
    let t1 := if (s.length : Int) < (wI .i64 (i + 8)) then (s.length : Int) else wI .i64 (i + 8)
    oreq (decide ((0 : Int) ≤ t1 ∧ t1 ≤ (s.length : Int) ∧ (0 : Int) ≤ i ∧ i ≤ (t1.toNat : Int))) <|
    let t2 := (s.drop i.toNat).take (t1.toNat - i.toNat)
    (R12_word t2).bind fun w =>
    cond (i == t)
      (
      oreq (decide ((0 : Int) ≤ i ∧ i ≤ (s.length : Int))) <|
      let t3 := (s.drop i.toNat).take (s.length - i.toNat)
      (R12_word t3).bind fun w1 =>
      let t4 := wI .u64 ((wI .u64 ((s.length : Int).tmod 256)) * 2 ^ 56)
      iter (fun st => R12_Hash_s1 R12_Round s t i st.1 st.2.1 st.2.2.1 st.2.2.2.1 st.2.2.2.2.1 st.2.2.2.2.2) FUEL (a, b, c, ixorI .u64 d (wI .u64 (w1 + t4)), wI .u64 (w1 + t4), 0))
      (
      iter (fun st => R12_Hash_s1 R12_Round s t i st.1 st.2.1 st.2.2.1 st.2.2.2.1 st.2.2.2.2.1 st.2.2.2.2.2) FUEL (a, b, c, ixorI .u64 d w, w, 0)))
    (
    (R12_Mix a b (ixorI .u64 c 255) d 4).bind fun m1 =>
    let t5 := ixorI .u64 (ixorI .u64 m1.e0 m1.e1) m1.e2
    some (.inr (ixorI .u64 t5 m1.e3)))
def R12_HashF (R12_Mix : Int → Int → Int → Int → Int → Option Arr4_Int) (R12_Round : Int → Int → Int → Int → Option (Int × Int × Int × Int)) (R12_word : (List UInt8) → Option Int) (k : api_Key) (s : List UInt8) : Option Int :=
  let t := wI .i64 ((wI .i64 ((s.length : Int).tdiv 8)) * 8)
  iter (fun st => R12_Hash_s2 R12_Mix R12_Round R12_word s t st.1 st.2.1 st.2.2.1 st.2.2.2.1 st.2.2.2.2) FUEL (ixorI .u64 8317987319222330741 k.A, ixorI .u64 7237128888997146477 k.B, ixorI .u64 7816392313619706465 k.A, ixorI .u64 8387220255154660723 k.B, 0)
def rx95 (x : Int) : SRes := ⟨.int .u64 x, [], []⟩
def r95 (g : api_Key → (List UInt8) → Option Int) : Dec := dV uvapi_Key fun (y0 : api_Key) => dV asS fun (y1 : List UInt8) => dEnd (ofG (g y0 y1) rx95)
theorem r95_c {g : api_Key → (List UInt8) → Option Int} {y0 : api_Key} {y1 : List UInt8} {x : Int} (hx : g y0 y1 = some x) : r95 g [.agg ⟨[.int .u64 y0.A, .int .u64 y0.B]⟩, .string ⟨⟨y1⟩⟩] [] = some (rx95 x) := (dV_eq (uvapi_Key_c _)).trans ((dV_eq (asS_c)).trans (ofG_eq hx))
def s95 (g : api_Key → (List UInt8) → Option Int) : Summ := ⟨[.v, .v], r95 g⟩
theorem r95_eq {g : api_Key → (List UInt8) → Option Int} {y0 : api_Key} {y1 : List UInt8} {x : Int} (hx : g y0 y1 = some x) : (s95 g).run [.agg ⟨[.int .u64 y0.A, .int .u64 y0.B]⟩, .string ⟨⟨y1⟩⟩] [] = some (rx95 x) := r95_c hx
abbrev sums95 (R12_Mix : Int → Int → Int → Int → Int → Option Arr4_Int) (R12_Round : Int → Int → Int → Int → Option (Int × Int × Int × Int)) (R12_word : (List UInt8) → Option Int) : List (Nat × Summ) := [(137, s137 R12_Mix), (136, s136 R12_Round), (135, s135 R12_word)]
def head95_1 (s : List UInt8) (t : Int) (i : Int) (a1 : Int) (b1 : Int) (c1 : Int) (d1 : Int) (m : Int) (n : Int) : VM :=
  ⟨⟨95, 95, [(1, .string ⟨⟨s⟩⟩), (5, .int .u64 a1), (6, .int .u64 b1), (7, .int .u64 c1), (8, .int .u64 d1), (9, .int .i64 t), (10, .int .i64 i), (11, .int .u64 m), (12, .int .i64 n)], [.code k95_22, .inLoop k95_22, .inBlock 2, .code k95_26, .inBlock 1, .code k95_32, .inLoop k95_34, .inBlock 0, .code k95_43], [], false, none⟩, [], [], 15⟩
def head95_2 (s : List UInt8) (t : Int) (a : Int) (b : Int) (c : Int) (d : Int) (i : Int) : VM :=
  ⟨⟨95, 95, [(1, .string ⟨⟨s⟩⟩), (5, .int .u64 a), (6, .int .u64 b), (7, .int .u64 c), (8, .int .u64 d), (9, .int .i64 t), (10, .int .i64 i)], [.code k95_34, .inLoop k95_34, .inBlock 0, .code k95_43], [], false, none⟩, [], [], 15⟩
theorem loop95_1 (R12_Mix : Int → Int → Int → Int → Int → Option Arr4_Int) (R12_Round : Int → Int → Int → Int → Option (Int × Int × Int × Int)) (R12_word : (List UInt8) → Option Int) (hS : SumsOK Try.prog (aget (sums95 R12_Mix R12_Round R12_word))) (s : List UInt8) (t : Int) (i : Int) (res : Int) : ∀ fuel (st : Int × Int × Int × Int × Int × Int) (o : Sum (Int × Int × Int × Int × Int) Int), iter (fun st => R12_Hash_s1 R12_Round s t i st.1 st.2.1 st.2.2.1 st.2.2.2.1 st.2.2.2.2.1 st.2.2.2.2.2) fuel st = some o → (Sum.elim (fun s0 => Leads Try.prog 95 0 (head95_2 s t s0.1 s0.2.1 s0.2.2.1 s0.2.2.2.1 s0.2.2.2.2) (fun v H _ => Res 0 (rx95 res) v H)) (fun r0 => r0 = res) o) →
    Leads Try.prog 95 0 (head95_1 s t i st.1 st.2.1 st.2.2.1 st.2.2.2.1 st.2.2.2.2.1 st.2.2.2.2.2) (fun v H _ => Res 0 (rx95 res) v H) := by
  intro fuel st o h hc
  refine iter_leads (head := fun st => head95_1 s t i st.1 st.2.1 st.2.2.1 st.2.2.2.1 st.2.2.2.2.1 st.2.2.2.2.2) (C := fun o => (Sum.elim (fun s0 => Leads Try.prog 95 0 (head95_2 s t s0.1 s0.2.1 s0.2.2.1 s0.2.2.2.1 s0.2.2.2.2) (fun v H _ => Res 0 (rx95 res) v H)) (fun r0 => r0 = res) o)) ?_ fuel st o h hc
  clear h hc o st fuel
  intro st o h hc
  obtain ⟨a1, b1, c1, d1, m, n⟩ := st
  replace h : R12_Hash_s1 R12_Round s t i a1 b1 c1 d1 m n = some o := h
  show Leads Try.prog 95 0 (head95_1 s t i a1 b1 c1 d1 m n) (fun v H _ => Res 0 (rx95 res) v H)
  unfold R12_Hash_s1 at h
  refine ev_ok tab_ok hS true 3000 ?_
  conv => whnf
  refine br.h2 h ?_ ?_ ?_
  · rfl
  · clear h; intro hb h; conv => whnf
    cases h; simp only [Sum.elim_inr, Sum.elim_inl, head95_2] at hc
    exact lrA1 hc [] rfl
  clear h; intro hb h; conv => whnf
  replace h := obind.elim h; obtain ⟨xr, hy, h⟩ := h
  refine sumK.q rfl rfl (r136_eq hy) rfl rfl rfl ?_
  conv => whnf
  cases h; simp only [Sum.elim_inl, head95_1] at hc
  exact lrA1 hc [] rfl
theorem loop95_2 (R12_Mix : Int → Int → Int → Int → Int → Option Arr4_Int) (R12_Round : Int → Int → Int → Int → Option (Int × Int × Int × Int)) (R12_word : (List UInt8) → Option Int) (hS : SumsOK Try.prog (aget (sums95 R12_Mix R12_Round R12_word))) (s : List UInt8) (t : Int) (res : Int) : ∀ fuel (st : Int × Int × Int × Int × Int) (o : Int), iter (fun st => R12_Hash_s2 R12_Mix R12_Round R12_word s t st.1 st.2.1 st.2.2.1 st.2.2.2.1 st.2.2.2.2) fuel st = some o → (o = res) →
    Leads Try.prog 95 0 (head95_2 s t st.1 st.2.1 st.2.2.1 st.2.2.2.1 st.2.2.2.2) (fun v H _ => Res 0 (rx95 res) v H) := by
  intro fuel st o h hc
  refine iter_leads (head := fun st => head95_2 s t st.1 st.2.1 st.2.2.1 st.2.2.2.1 st.2.2.2.2) (C := fun o => (o = res)) ?_ fuel st o h hc
  clear h hc o st fuel
  intro st o h hc
  obtain ⟨a, b, c, d, i⟩ := st
  replace h : R12_Hash_s2 R12_Mix R12_Round R12_word s t a b c d i = some o := h
  show Leads Try.prog 95 0 (head95_2 s t a b c d i) (fun v H _ => Res 0 (rx95 res) v H)
  unfold R12_Hash_s2 at h
  refine ev_ok tab_ok hS true 3000 ?_
  conv => whnf
  refine br.h2 h ?_ ?_ ?_
  · rfl
  · clear h; intro hb h; conv => whnf
    replace h := obind.elim h; obtain ⟨m1, hy, h⟩ := h
    refine sumK.q rfl rfl (r137_eq hy) rfl rfl rfl ?_
    conv => whnf
    let t5 : Int := ixorI .u64 (ixorI .u64 m1.e0 m1.e1) m1.e2
    all_goals (cases h; cases hc; exact Res.z rfl rfl rfl)
  clear h; intro hb h; conv => whnf
  let t1 : Int := if (s.length : Int) < (wI .i64 (i + 8)) then (s.length : Int) else wI .i64 (i + 8)
  replace h := oreq.elim h; obtain ⟨hb, h⟩ := h
  first | (refine req.intro hb ?_; conv => whnf) | skip
  let t2 : List UInt8 := (s.drop i.toNat).take (t1.toNat - i.toNat)
  replace h := obind.elim h; obtain ⟨w, hy, h⟩ := h
  refine sumK.q rfl rfl (r135_eq hy) rfl rfl rfl ?_
  conv => whnf
  refine br.h2 h ?_ ?_ ?_
  · rfl
  · clear h; intro hb h; conv => whnf
    have hl := loop95_1 R12_Mix R12_Round R12_word hS _ _ _ res _ _ _ h hc; simp only [head95_1] at hl
    exact lrA1 hl [] rfl
  clear h; intro hb h; conv => whnf
  replace h := oreq.elim h; obtain ⟨hb, h⟩ := h
  first | (refine req.intro hb ?_; conv => whnf) | skip
  let t3 : List UInt8 := (s.drop i.toNat).take (s.length - i.toNat)
  replace h := obind.elim h; obtain ⟨w1, hy, h⟩ := h
  refine sumK.q rfl rfl (r135_eq hy) rfl rfl rfl ?_
  conv => whnf
  let t4 : Int := wI .u64 ((wI .u64 ((s.length : Int).tmod 256)) * 2 ^ 56)
  have hl := loop95_1 R12_Mix R12_Round R12_word hS _ _ _ res _ _ _ h hc; simp only [head95_1] at hl
  exact lrA1 hl [] rfl
theorem leads95 (R12_Mix : Int → Int → Int → Int → Int → Option Arr4_Int) (R12_Round : Int → Int → Int → Int → Option (Int × Int × Int × Int)) (R12_word : (List UInt8) → Option Int) (hS : SumsOK Try.prog (aget (sums95 R12_Mix R12_Round R12_word))) (k : api_Key) (s : List UInt8) (res : Int) (h : R12_HashF R12_Mix R12_Round R12_word k s = some res) :
    Leads Try.prog 95 0 ⟨⟨95, 95, [(0, .agg ⟨[.int .u64 k.A, .int .u64 k.B]⟩), (1, .string ⟨⟨s⟩⟩)], [.code k95_48], [], false, none⟩, [], [], 0⟩ (fun v H _ => Res 0 (rx95 res) v H) := by
  unfold R12_HashF at h
  refine ev_ok tab_ok hS true 3000 ?_
  conv => whnf
  let t : Int := wI .i64 ((wI .i64 ((s.length : Int).tdiv 8)) * 8)
  have hl := loop95_2 R12_Mix R12_Round R12_word hS _ _ res _ _ _ h rfl; simp only [head95_2] at hl
  exact lrA1 hl [] rfl
theorem ok95 (R12_Mix : Int → Int → Int → Int → Int → Option Arr4_Int) (R12_Round : Int → Int → Int → Int → Option (Int × Int × Int × Int)) (R12_word : (List UInt8) → Option Int) (hS : SumsOK Try.prog (aget (sums95 R12_Mix R12_Round R12_word))) : SumOK Try.prog 95 (s95 (R12_HashF R12_Mix R12_Round R12_word)) := by
  refine SumOK.of_leads tab_ok (fun ar os r ha hr => ?_) ⟨Try.f95, rfl, by decide, rfl⟩
  replace hr : r95 (R12_HashF R12_Mix R12_Round R12_word) ar (conts os) = some r := hr
  unfold r95 at hr
  generalize hc : conts os = C at hr
  replace hr := dV.elim hr; obtain ⟨v0, l1, y0, rfl, e0, hr⟩ := hr; obtain rfl := uvapi_Key_eq _ _ e0
  replace hr := dV.elim hr; obtain ⟨v1, l2, y1, rfl, e1, hr⟩ := hr; obtain rfl := asS_eq _ _ e1
  replace hr := dFin hr; obtain ⟨rfl, rfl, x, h, rfl⟩ := hr
  obtain rfl := kinds_nil hc
  exact ⟨_, rfl, leads95 R12_Mix R12_Round R12_word hS _ _ x h⟩
def R12_Hash : api_Key → (List UInt8) → Option Int := R12_HashF R12_Mix R12_Round R12_word
theorem lift95 : SumOK Try.prog 95 (s95 R12_Hash) := ok95 R12_Mix R12_Round R12_word (SumsOK.of_tab ⟨lift137, lift136, lift135, trivial⟩)
end Go.Vm.Code
namespace Go.Vm.Code
open Go Go.Vm
theorem iorU64_hi (k : Nat) {a b : Int} (h0 : 0 ≤ a) (h1 : a * 2 ^ k < 18446744073709551616) (hb0 : 0 ≤ b) (hb : b < 2 ^ k) (hb1 : b < 18446744073709551616) : iorI .u64 b (a * 2 ^ k) = a * 2 ^ k + b := by
  obtain ⟨n, rfl⟩ := Int.eq_ofNat_of_zero_le h0
  obtain ⟨m, rfl⟩ := Int.eq_ofNat_of_zero_le hb0
  have e : ((n : Int) * 2 ^ k) = ((n * 2 ^ k : Nat) : Int) := by push_cast; rfl
  rw [e] at h1 ⊢
  rw [iorU64 (by omega) (by omega), Nat.or_comm, or_low (by exact_mod_cast hb)]; push_cast; rfl
def wrd : List UInt8 → Nat
  | [] => 0
  | b :: l => b.toNat + 256 * wrd l
theorem wrd_lt : ∀ l : List UInt8, wrd l < 256 ^ l.length
  | [] => by simp [wrd]
  | b :: l => by
    have := wrd_lt l
    have hb := b.toNat_lt
    rw [wrd, List.length_cons, Nat.pow_succ]; omega
theorem wrd_snoc : ∀ (l : List UInt8) (b : UInt8), wrd (l ++ [b]) = wrd l + 256 ^ l.length * b.toNat
  | [], b => by simp [wrd]
  | c :: l, b => by
    have := wrd_snoc l b
    rw [List.cons_append, wrd, this, wrd, List.length_cons, Nat.pow_succ, Nat.mul_add, Nat.mul_comm (256 ^ l.length) 256, Nat.mul_assoc]; omega
theorem pow_le8 {j : Nat} (h : j ≤ 8) : 256 ^ j ≤ 18446744073709551616 := by
  have : (256 : Nat) ^ j ≤ 256 ^ 8 := Nat.pow_le_pow_right (by decide) h
  simpa using this
theorem word_eq12 {s : List UInt8} (hs : s.length ≤ 8) : R12_word s = some (wrd s : Int) := by
  unfold R12_word R12_wordF
  rw [wI64 (by omega) (by omega)]
  have key := iter_eq (step := fun (st : Int × Int) => R12_word_s1 s st.1 st.2) (fun st => ((st.1.toNat * 256 ^ (st.2 + 1).toNat + wrd (s.take (st.2 + 1).toNat) : Nat) : Int)) (fun st => 0 ≤ st.1 ∧ -1 ≤ st.2 ∧ st.2 < s.length ∧ st.1.toNat < 256 ^ (s.length - (st.2 + 1).toNat)) (fun st => (st.2 + 1).toNat) ?_ FUEL (0, (s.length : Int) - 1) ⟨by simp, by simp only; omega, by simp only; omega, by simp⟩ (by rw [FUEL_eq]; simp only; omega)
  · rw [key]
    have e : ((s.length : Int) - 1 + 1).toNat = s.length := by omega
    simp only [e]; simp
  rintro ⟨n, i⟩ ⟨g1, g2, g3, g4⟩
  simp only at g1 g2 g3 g4 ⊢
  obtain ⟨v, rfl⟩ := Int.eq_ofNat_of_zero_le g1
  simp only [Int.toNat_natCast] at g4 ⊢
  unfold R12_word_s1
  by_cases hi : i ≥ 0
  · obtain ⟨j, rfl⟩ := Int.eq_ofNat_of_zero_le hi
    have e1 : ((j : Int) + 1).toNat = j + 1 := by omega
    have e2 : ((j : Int) - 1 + 1).toNat = j := by omega
    rw [e1] at g4 ⊢
    have hj : j < s.length := by omega
    have hb := s[j].toNat_lt
    have hv : v * 256 + s[j].toNat < 256 ^ (s.length - j) := by
      rw [show s.length - j = (s.length - (j + 1)) + 1 by omega, Nat.pow_succ]; omega
    have hv2 := pow_le8 (j := s.length - j) (by omega)
    refine .inr ⟨(((v * 256 + s[j].toNat : Nat) : Int), (j : Int) - 1), ?_, ⟨by simp only; omega, by simp only; omega, by simp only; omega, ?_⟩, by simp only; omega, ?_⟩
    · rw [cond_p hi, oreq_p hi, Int.toNat_natCast, List.getElem?_eq_getElem hj, Option.bind_some, wU64 (n := (v : Int) * 2 ^ 8) (by omega) (by omega), wU64 (n := (s[j].toNat : Int)) (by omega) (by omega), wU64 (by omega) (by omega), wI64 (by omega) (by omega)]
      simp only []
      congr 3 <;> omega
    · simp only [e2, Int.toNat_natCast]; exact hv
    · simp only [e2, Int.toNat_natCast]
      rw [List.take_succ_eq_append_getElem hj, wrd_snoc, List.length_take, Nat.min_eq_left (by omega), Nat.pow_succ, Nat.add_mul, Nat.mul_assoc, Nat.mul_comm (256 ^ j) 256, Nat.mul_comm (256 ^ j) s[j].toNat]
      congr 1
      omega
  · refine .inl ?_
    rw [cond_n hi]
    have e1 : (i + 1).toNat = 0 := by omega
    rw [e1]; simp [wrd]
def finQ (q : Arr4_Int) : Int :=
  let m := rnds 4 ⟨q.e0, q.e1, ixorI .u64 q.e2 255, q.e3⟩
  ixorI .u64 (ixorI .u64 (ixorI .u64 m.e0 m.e1) m.e2) m.e3
theorem part_eq (T : Arr4_Int → Int → Arr4_Int) : ∀ (l : List UInt8) (h : sip_Hasher) (j v : Nat), h.count.toNat % 8 = j → 0 ≤ h.count → h.last = (v : Int) → v < 256 ^ j → j + l.length < 8 → l.foldl (wrT T) h = ⟨h.made, h.s, ((v + 256 ^ j * wrd l : Nat) : Int), h.count + l.length⟩
  | [], h, j, v, hj, h0, hv, hlt, hl => by
    obtain ⟨m, s, la, c⟩ := h
    simp only at hv; subst hv
    simp [wrd]
  | b :: l, h, j, v, hj, h0, hv, hlt, hl => by
    rw [List.length_cons] at hl
    have hb := b.toNat_lt
    have hp : (256 : Nat) ^ j = 2 ^ (8 * j) := by rw [Nat.pow_mul]
    have hp2 := pow_le8 (j := j + 1) (by omega)
    rw [Nat.pow_succ] at hp2
    have hb2 : b.toNat * 256 ^ j ≤ 255 * 256 ^ j := Nat.mul_le_mul_right _ (by omega)
    have hpI : (2 : Int) ^ (8 * j) = ((256 ^ j : Nat) : Int) := by rw [hp]; push_cast; rfl
    have e1 : wI .u64 ((b.toNat : Int) * 2 ^ (8 * j)) = (b.toNat : Int) * 2 ^ (8 * j) := by
      rw [hpI, ← Int.natCast_mul]; exact wU64 (by omega) (by omega)
    have e2 : iorI .u64 (v : Int) ((b.toNat : Int) * 2 ^ (8 * j)) = ((v + 256 ^ j * b.toNat : Nat) : Int) := by
      rw [iorU64_hi (8 * j) (by omega) (by rw [hpI, ← Int.natCast_mul]; omega) (by omega) (by rw [hpI]; omega) (by omega), hpI, ← Int.natCast_mul, Nat.mul_comm]; omega
    have hw : wrT T h b = ⟨h.made, h.s, ((v + 256 ^ j * b.toNat : Nat) : Int), h.count + 1⟩ := by
      unfold wrT
      rw [hj, hv, if_neg (by omega), e1, e2]
    rw [List.foldl_cons, hw, part_eq T l _ (j + 1) (v + 256 ^ j * b.toNat) (by simp only; omega) (by simp only; omega) rfl (by rw [Nat.pow_succ, Nat.mul_comm (256 ^ j) b.toNat]; omega) (by omega)]
    simp only [wrd, Nat.pow_succ, List.length_cons]
    congr 1
    · rw [Nat.mul_add, ← Nat.mul_assoc, Nat.add_assoc]
    · omega
theorem full_eq (T : Arr4_Int → Int → Arr4_Int) {l : List UInt8} {h : sip_Hasher} (hl : l.length = 8) (hc : h.count.toNat % 8 = 0) (h0 : 0 ≤ h.count) (hv : h.last = 0) : l.foldl (wrT T) h = ⟨h.made, T h.s (wrd l : Int), 0, h.count + 8⟩ := by
  obtain ⟨l7, b, rfl⟩ : ∃ l7 b, l = l7 ++ [b] := ⟨l.dropLast, l.getLast (by intro e; rw [e] at hl; simp at hl), (List.dropLast_concat_getLast _).symm⟩
  have h7 : l7.length = 7 := by simp at hl; omega
  have hb := b.toNat_lt
  have hw := wrd_lt l7
  rw [h7] at hw
  rw [List.foldl_append, part_eq T l7 h 0 0 hc h0 (by rw [hv]; rfl) (by simp) (by omega), h7, wrd_snoc, h7]
  simp only [List.foldl_cons, List.foldl_nil, wrT, Nat.pow_zero, Nat.one_mul, Nat.zero_add]
  have e0 : (h.count + ((7 : Nat) : Int)).toNat % 8 = 7 := by omega
  have e00 : ((h.count + ((7 : Nat) : Int)).toNat + 1) % 8 = 0 := by omega
  rw [e0, if_pos e00]
  have e1 : wI .u64 ((b.toNat : Int) * 2 ^ (8 * 7)) = (b.toNat : Int) * 2 ^ (8 * 7) := wU64 (by omega) (by omega)
  have e2 : iorI .u64 (wrd l7 : Int) ((b.toNat : Int) * 2 ^ (8 * 7)) = ((wrd l7 + 256 ^ 7 * b.toNat : Nat) : Int) := by
    rw [iorU64_hi (8 * 7) (by omega) (by omega) (by omega) (by omega) (by omega)]; omega
  rw [e1, e2]
  congr 1
  omega
def hashR (T : Arr4_Int → Int → Arr4_Int) (fin : Arr4_Int → Int) (n : Nat) (q : Arr4_Int) (l : List UInt8) : Int :=
  if h : 8 ≤ l.length then hashR T fin n (T q (wrd (l.take 8) : Int)) (l.drop 8) else fin (T q ((wrd l + n % 256 * 2 ^ 56 : Nat) : Int))
termination_by l.length
decreasing_by simp; omega
theorem fold_hashR (T : Arr4_Int → Int → Arr4_Int) (fin : Arr4_Int → Int) : ∀ (k : Nat) (l : List UInt8) (h : sip_Hasher), l.length ≤ k → h.count.toNat % 8 = 0 → 0 ≤ h.count → h.last = 0 → ∀ n : Nat, (n : Int) = h.count + l.length →
    fin (T (l.foldl (wrT T) h).s (iorI .u64 (l.foldl (wrT T) h).last (wI .u64 ((wI .u64 (l.foldl (wrT T) h).count) * 2 ^ 56)))) = hashR T fin n h.s l := by
  intro k
  induction k with
  | zero =>
    intro l h hl hc h0 hv n hn
    obtain rfl : l = [] := List.length_eq_zero_iff.1 (by omega)
    rw [hashR, dif_neg (by simp)]
    simp only [List.foldl_nil, hv, wrd]
    congr 2
    simp at hn
    rw [← hn]
    have e1 : wI .u64 ((wI .u64 (n : Int)) * 2 ^ 56) = ((n % 256 : Nat) : Int) * 2 ^ 56 := by rw [wU64m, wU64m]; omega
    rw [e1, iorU64_hi 56 (by omega) (by omega) (by omega) (by omega) (by omega)]; omega
  | succ k ih =>
    intro l h hl hc h0 hv n hn
    by_cases h8 : 8 ≤ l.length
    · rw [hashR, dif_pos h8]
      have hs : l.foldl (wrT T) h = (l.drop 8).foldl (wrT T) ⟨h.made, T h.s (wrd (l.take 8) : Int), 0, h.count + 8⟩ := by
        rw [← full_eq T (l := l.take 8) (by simp; omega) hc h0 hv, ← List.foldl_append, List.take_append_drop]
      rw [hs]
      exact ih (l.drop 8) ⟨h.made, T h.s (wrd (l.take 8) : Int), 0, h.count + 8⟩ (by simp; omega) (by simp only; omega) (by simp only; omega) rfl n (by simp; omega)
    · rw [hashR, dif_neg h8, part_eq T l h 0 0 hc h0 (by rw [hv]; rfl) (by simp) (by omega)]
      simp only [Nat.zero_add, Nat.pow_zero, Nat.one_mul]
      congr 2
      rw [← hn]
      have hw : wrd l < 256 ^ 7 := Nat.lt_of_lt_of_le (wrd_lt l) (Nat.pow_le_pow_right (by decide) (by omega))
      have e1 : wI .u64 ((wI .u64 (n : Int)) * 2 ^ 56) = ((n % 256 : Nat) : Int) * 2 ^ 56 := by rw [wU64m, wU64m]; omega
      rw [e1, iorU64_hi 56 (by omega) (by omega) (by omega) (by omega) (by omega)]; omega
theorem inner12G (r : Arr4_Int → Arr4_Int) (s : List UInt8) (t i a b c d m : Int) (hi : 0 ≤ i ∧ i < 2 ^ 62) : iter (fun (st : Int × Int × Int × Int × Int × Int) => R12_Hash_s1 (fun a b c d => some ((r ⟨a, b, c, d⟩).e0, (r ⟨a, b, c, d⟩).e1, (r ⟨a, b, c, d⟩).e2, (r ⟨a, b, c, d⟩).e3)) s t i st.1 st.2.1 st.2.2.1 st.2.2.2.1 st.2.2.2.2.1 st.2.2.2.2.2) FUEL (a, b, c, d, m, 0) =
    some (.inl (ixorI .u64 (r (r ⟨a, b, c, d⟩)).e0 m, (r (r ⟨a, b, c, d⟩)).e1, (r (r ⟨a, b, c, d⟩)).e2, (r (r ⟨a, b, c, d⟩)).e3, i + 8)) := by
  have e8 : wI .i64 (i + 8) = i + 8 := wI64 (by omega) (by omega)
  show iter _ (18446744073709551613 + 1 + 1 + 1) _ = _
  rw [iter]
  have s1 : ∀ (a b c d n : Int), n < 2 → 0 ≤ n → R12_Hash_s1 (fun a b c d => some ((r ⟨a, b, c, d⟩).e0, (r ⟨a, b, c, d⟩).e1, (r ⟨a, b, c, d⟩).e2, (r ⟨a, b, c, d⟩).e3)) s t i a b c d m n = some (.inl ((r ⟨a, b, c, d⟩).e0, (r ⟨a, b, c, d⟩).e1, (r ⟨a, b, c, d⟩).e2, (r ⟨a, b, c, d⟩).e3, m, n + 1)) := by
    intro a b c d n h1 h0
    unfold R12_Hash_s1
    rw [cond_p h1, Option.bind_some, wI64 (n := n + 1) (by omega) (by omega)]
  have s2 : ∀ (a b c d : Int), R12_Hash_s1 (fun a b c d => some ((r ⟨a, b, c, d⟩).e0, (r ⟨a, b, c, d⟩).e1, (r ⟨a, b, c, d⟩).e2, (r ⟨a, b, c, d⟩).e3)) s t i a b c d m 2 = some (.inr (.inl (ixorI .u64 a m, b, c, d, i + 8))) := by
    intro a b c d
    unfold R12_Hash_s1
    rw [cond_n (by decide), e8]
  rw [s1 a b c d 0 (by decide) (by decide)]
  simp only []
  rw [iter]
  simp only [show (0 : Int) + 1 = 1 from rfl]
  rw [s1 _ _ _ _ 1 (by decide) (by decide)]
  simp only []
  rw [iter]
  simp only [show (1 : Int) + 1 = 2 from rfl]
  rw [s2]
theorem inner12 (s : List UInt8) (t i a b c d m : Int) (hi : 0 ≤ i ∧ i < 2 ^ 62) : iter (fun (st : Int × Int × Int × Int × Int × Int) => R12_Hash_s1 R12_Round s t i st.1 st.2.1 st.2.2.1 st.2.2.2.1 st.2.2.2.2.1 st.2.2.2.2.2) FUEL (a, b, c, ixorI .u64 d m, m, 0) =
    some (.inl ((tak ⟨a, b, c, d⟩ m).e0, (tak ⟨a, b, c, d⟩ m).e1, (tak ⟨a, b, c, d⟩ m).e2, (tak ⟨a, b, c, d⟩ m).e3, i + 8)) := by
  have e : R12_Round = fun a b c d => some ((rnd ⟨a, b, c, d⟩).e0, (rnd ⟨a, b, c, d⟩).e1, (rnd ⟨a, b, c, d⟩).e2, (rnd ⟨a, b, c, d⟩).e3) := by
    funext a b c d; exact Round_eq a b c d
  rw [e, inner12G rnd s t i a b c (ixorI .u64 d m) m hi]
  simp only [tak, rnds]
theorem R12_Hash_eq {k : api_Key} {s : List UInt8} (h : s.length < 2 ^ 60) : R12_Hash k s = some (hashR tak finQ s.length (newV k).s s) := by
  unfold R12_Hash R12_HashF
  have ew : wI .i64 ((wI .i64 ((s.length : Int).tdiv 8)) * 8) = ((s.length / 8 * 8 : Nat) : Int) := by
    rw [Int.tdiv_eq_ediv_of_nonneg (by omega), wI64 (n := (s.length : Int) / 8) (by omega) (by omega), wI64 (by omega) (by omega)]; omega
  rw [ew]
  simp only []
  generalize hw : s.length / 8 * 8 = w
  have hw1 : w ≤ s.length ∧ s.length < w + 8 ∧ w % 8 = 0 := by omega
  have key := iter_eq (step := fun (st : Int × Int × Int × Int × Int) => R12_Hash_s2 R12_Mix R12_Round R12_word s (w : Int) st.1 st.2.1 st.2.2.1 st.2.2.2.1 st.2.2.2.2)
    (fun st => if st.2.2.2.2 ≤ w then hashR tak finQ s.length ⟨st.1, st.2.1, st.2.2.1, st.2.2.2.1⟩ (s.drop st.2.2.2.2.toNat) else finQ ⟨st.1, st.2.1, st.2.2.1, st.2.2.2.1⟩)
    (fun st => ∃ i : Nat, st.2.2.2.2 = i ∧ i % 8 = 0 ∧ i ≤ w + 8) (fun st => (w + 8 - st.2.2.2.2).toNat) ?_ FUEL ((newV k).s.e0, (newV k).s.e1, (newV k).s.e2, (newV k).s.e3, 0) ⟨0, rfl, by omega, by omega⟩ (by rw [FUEL_eq]; simp only; omega)
  · refine Eq.trans key ?_
    simp only [Int.toNat_zero, List.drop_zero]
    rw [if_pos (by omega)]
  rintro ⟨a, b, c, d, p⟩ ⟨i, g1, g2, g3⟩
  simp only at g1 ⊢
  subst g1
  unfold R12_Hash_s2
  by_cases hi : i ≤ w
  · rw [cond_p (by omega), if_pos (show (i : Int) ≤ w by omega), Int.toNat_natCast]
    have e8 : wI .i64 ((i : Int) + 8) = (i : Int) + 8 := wI64 (by omega) (by omega)
    by_cases hl : i = w
    · subst hl
      have e1 : (if (s.length : Int) < (i : Int) + 8 then (s.length : Int) else (i : Int) + 8) = s.length := by rw [if_pos (by omega)]
      have hlen : (s.drop i).length ≤ 7 := by simp; omega
      have et : (s.drop i).take (s.length - i) = s.drop i := List.take_of_length_le (by simp)
      have hv : wrd (s.drop i) < 256 ^ 7 := Nat.lt_of_lt_of_le (wrd_lt _) (Nat.pow_le_pow_right (by decide) hlen)
      have em : wI .u64 ((wrd (s.drop i) : Int) + wI .u64 ((wI .u64 ((s.length : Int).tmod 256)) * 2 ^ 56)) = ((wrd (s.drop i) + s.length % 256 * 2 ^ 56 : Nat) : Int) := by
        rw [Int.tmod_eq_emod_of_nonneg (by omega), wU64 (n := (s.length : Int) % 256) (by omega) (by omega), wU64 (n := (s.length : Int) % 256 * 2 ^ 56) (by omega) (by omega), wU64 (by omega) (by omega)]; omega
      refine .inr ⟨((tak ⟨a, b, c, d⟩ ((wrd (s.drop i) + s.length % 256 * 2 ^ 56 : Nat) : Int)).e0, (tak ⟨a, b, c, d⟩ ((wrd (s.drop i) + s.length % 256 * 2 ^ 56 : Nat) : Int)).e1, (tak ⟨a, b, c, d⟩ ((wrd (s.drop i) + s.length % 256 * 2 ^ 56 : Nat) : Int)).e2, (tak ⟨a, b, c, d⟩ ((wrd (s.drop i) + s.length % 256 * 2 ^ 56 : Nat) : Int)).e3, (i : Int) + 8), ?_, ⟨i + 8, by simp only; omega, by omega, by omega⟩, by simp only; omega, ?_⟩
      · simp only [e8, e1]
        rw [oreq_p (by omega), Int.toNat_natCast, et, word_eq12 (by omega), Option.bind_some, beq_self_eq_true, cond_true, oreq_p (by omega), Option.bind_some, em]
        exact inner12 s (i : Int) (i : Int) a b c d _ (by omega)
      · simp only []
        rw [if_neg (show ¬ (i : Int) + 8 ≤ i by omega), hashR, dif_neg (by omega)]
    · have h8 : i + 8 ≤ s.length := by omega
      have e1 : (if (s.length : Int) < (i : Int) + 8 then (s.length : Int) else (i : Int) + 8) = (i : Int) + 8 := by
        split
        · omega
        · rfl
      have e2 : ((i : Int) + 8).toNat - i = 8 := by omega
      have e3 : ((i : Int) == (w : Int)) = false := by rw [beq_eq_false_iff_ne]; omega
      refine .inr ⟨((tak ⟨a, b, c, d⟩ (wrd ((s.drop i).take 8) : Int)).e0, (tak ⟨a, b, c, d⟩ (wrd ((s.drop i).take 8) : Int)).e1, (tak ⟨a, b, c, d⟩ (wrd ((s.drop i).take 8) : Int)).e2, (tak ⟨a, b, c, d⟩ (wrd ((s.drop i).take 8) : Int)).e3, (i : Int) + 8), ?_, ⟨i + 8, by simp only; omega, by omega, by omega⟩, by simp only; omega, ?_⟩
      · simp only [e8, e1]
        rw [oreq_p (by omega), e2, word_eq12 (by rw [List.length_take]; omega), Option.bind_some, e3, cond_false]
        exact inner12 s (w : Int) (i : Int) a b c d _ (by omega)
      · simp only []
        rw [if_pos (show (i : Int) + 8 ≤ w by omega), show ((i : Int) + 8).toNat = i + 8 by omega]
        conv => rhs; rw [hashR, dif_pos (by simp; omega), List.drop_drop]
  · refine .inl ?_
    rw [cond_n (by omega), if_neg (show ¬ (i : Int) ≤ w by omega), Mix_eq, Option.bind_some, show cnt 4 = 4 from rfl]
    rfl
end Go.Vm.Code
namespace Go.Vm.Code
open Go Go.Vm Go.Proofs
set_option maxRecDepth 100000
set_option maxHeartbeats 4000000
set_option linter.unusedVariables false
def R14_RightF (l : api_Layout) : Option Bool :=
  cond (l.Wide)
    (
    cond (decide (l.Slot ≥ 0))
      (
      cond (decide (l.Slot ≤ 12))
        (
        cond (decide (l.Gen ≥ 0))
          (
          some (decide (l.Gen ≤ (wI .i64 (63 - l.Slot)))))
          (
          some (false)))
        (
        some (false)))
      (
      some (false)))
    (
    cond (decide (l.Slot ≥ 0))
      (
      cond (decide (l.Slot ≤ 12))
        (
        cond (decide (l.Gen ≥ 0))
          (
          some (decide (l.Gen ≤ (wI .i64 (16 - l.Slot)))))
          (
          some (false)))
        (
        some (false)))
      (
      some (false)))
def rx146 (x : Bool) : SRes := ⟨.bool x, [], []⟩
def r146 (g : api_Layout → Option Bool) : Dec := dV uvapi_Layout fun (y0 : api_Layout) => dEnd (ofG (g y0) rx146)
theorem r146_c {g : api_Layout → Option Bool} {y0 : api_Layout} {x : Bool} (hx : g y0 = some x) : r146 g [.agg ⟨[.bool y0.Wide, .int .i64 y0.Slot, .int .i64 y0.Gen]⟩] [] = some (rx146 x) := (dV_eq (uvapi_Layout_c _)).trans (ofG_eq hx)
def s146 (g : api_Layout → Option Bool) : Summ := ⟨[.v], r146 g⟩
theorem r146_eq {g : api_Layout → Option Bool} {y0 : api_Layout} {x : Bool} (hx : g y0 = some x) : (s146 g).run [.agg ⟨[.bool y0.Wide, .int .i64 y0.Slot, .int .i64 y0.Gen]⟩] [] = some (rx146 x) := r146_c hx
abbrev sums146 : List (Nat × Summ) := []
theorem leads146 (hS : SumsOK Try.prog (aget (sums146))) (l : api_Layout) (res : Bool) (h : R14_RightF l = some res) :
    Leads Try.prog 146 0 ⟨⟨146, 28, [(0, .agg ⟨[.bool l.Wide, .int .i64 l.Slot, .int .i64 l.Gen]⟩)], [.code k146_10], [], false, none⟩, [], [], 0⟩ (fun v H _ => Res 0 (rx146 res) v H) := by
  unfold R14_RightF at h
  refine ev_ok tab_ok hS true 3000 ?_
  conv => whnf
  refine br.h h ?_ ?_ ?_
  · rfl
  · clear h; intro hb h; conv => whnf
    refine br.h2 h ?_ ?_ ?_
    · rfl
    · clear h; intro hb h; conv => whnf
      all_goals (cases h; exact Res.z rfl rfl rfl)
    clear h; intro hb h; conv => whnf
    refine br.h2 h ?_ ?_ ?_
    · rfl
    · clear h; intro hb h; conv => whnf
      all_goals (cases h; exact Res.z rfl rfl rfl)
    clear h; intro hb h; conv => whnf
    refine br.h h ?_ ?_ ?_
    · rfl
    · clear h; intro hb h; conv => whnf
      all_goals (cases h; exact Res.z rfl rfl rfl)
    clear h; intro hb h; conv => whnf
    all_goals (cases h; exact Res.z rfl rfl rfl)
  clear h; intro hb h; conv => whnf
  refine br.h2 h ?_ ?_ ?_
  · rfl
  · clear h; intro hb h; conv => whnf
    all_goals (cases h; exact Res.z rfl rfl rfl)
  clear h; intro hb h; conv => whnf
  refine br.h2 h ?_ ?_ ?_
  · rfl
  · clear h; intro hb h; conv => whnf
    all_goals (cases h; exact Res.z rfl rfl rfl)
  clear h; intro hb h; conv => whnf
  refine br.h h ?_ ?_ ?_
  · rfl
  · clear h; intro hb h; conv => whnf
    all_goals (cases h; exact Res.z rfl rfl rfl)
  clear h; intro hb h; conv => whnf
  all_goals (cases h; exact Res.z rfl rfl rfl)
theorem ok146 (hS : SumsOK Try.prog (aget (sums146))) : SumOK Try.prog 146 (s146 (R14_RightF)) := by
  refine SumOK.of_leads tab_ok (fun ar os r ha hr => ?_) ⟨Try.f146, rfl, by decide, rfl⟩
  replace hr : r146 (R14_RightF) ar (conts os) = some r := hr
  unfold r146 at hr
  generalize hc : conts os = C at hr
  replace hr := dV.elim hr; obtain ⟨v0, l1, y0, rfl, e0, hr⟩ := hr; obtain rfl := uvapi_Layout_eq _ _ e0
  replace hr := dFin hr; obtain ⟨rfl, rfl, x, h, rfl⟩ := hr
  obtain rfl := kinds_nil hc
  exact ⟨_, rfl, leads146 hS _ x h⟩
def R14_Right : api_Layout → Option Bool := R14_RightF
theorem lift146 : SumOK Try.prog 146 (s146 R14_Right) := ok146 (SumsOK.of_tab trivial)
def R14_WidthF (R14_Right : api_Layout → Option Bool) (l : api_Layout) : Option Int :=
  (R14_Right l).bind fun xr =>
  cond (!xr)
    (
    some (0))
    (
    cond (l.Wide)
      (
      some (64))
      (
      some (16)))
def rx131 (x : Int) : SRes := ⟨.int .i64 x, [], []⟩
def r131 (g : api_Layout → Option Int) : Dec := dV uvapi_Layout fun (y0 : api_Layout) => dEnd (ofG (g y0) rx131)
theorem r131_c {g : api_Layout → Option Int} {y0 : api_Layout} {x : Int} (hx : g y0 = some x) : r131 g [.agg ⟨[.bool y0.Wide, .int .i64 y0.Slot, .int .i64 y0.Gen]⟩] [] = some (rx131 x) := (dV_eq (uvapi_Layout_c _)).trans (ofG_eq hx)
def s131 (g : api_Layout → Option Int) : Summ := ⟨[.v], r131 g⟩
theorem r131_eq {g : api_Layout → Option Int} {y0 : api_Layout} {x : Int} (hx : g y0 = some x) : (s131 g).run [.agg ⟨[.bool y0.Wide, .int .i64 y0.Slot, .int .i64 y0.Gen]⟩] [] = some (rx131 x) := r131_c hx
abbrev sums131 (R14_Right : api_Layout → Option Bool) : List (Nat × Summ) := [(146, s146 R14_Right)]
theorem leads131 (R14_Right : api_Layout → Option Bool) (hS : SumsOK Try.prog (aget (sums131 R14_Right))) (l : api_Layout) (res : Int) (h : R14_WidthF R14_Right l = some res) :
    Leads Try.prog 131 0 ⟨⟨131, 8, [(0, .agg ⟨[.bool l.Wide, .int .i64 l.Slot, .int .i64 l.Gen]⟩)], [.code k131_15], [], false, none⟩, [], [], 0⟩ (fun v H _ => Res 0 (rx131 res) v H) := by
  unfold R14_WidthF at h
  refine ev_ok tab_ok hS true 3000 ?_
  conv => whnf
  replace h := obind.elim h; obtain ⟨xr, hy, h⟩ := h
  refine sumK.q rfl rfl (r146_eq hy) rfl rfl rfl ?_
  conv => whnf
  refine br.h h ?_ ?_ ?_
  · rfl
  · clear h; intro hb h; conv => whnf
    all_goals (cases h; exact Res.z rfl rfl rfl)
  clear h; intro hb h; conv => whnf
  refine br.h h ?_ ?_ ?_
  · rfl
  · clear h; intro hb h; conv => whnf
    all_goals (cases h; exact Res.z rfl rfl rfl)
  clear h; intro hb h; conv => whnf
  all_goals (cases h; exact Res.z rfl rfl rfl)
theorem ok131 (R14_Right : api_Layout → Option Bool) (hS : SumsOK Try.prog (aget (sums131 R14_Right))) : SumOK Try.prog 131 (s131 (R14_WidthF R14_Right)) := by
  refine SumOK.of_leads tab_ok (fun ar os r ha hr => ?_) ⟨Try.f131, rfl, by decide, rfl⟩
  replace hr : r131 (R14_WidthF R14_Right) ar (conts os) = some r := hr
  unfold r131 at hr
  generalize hc : conts os = C at hr
  replace hr := dV.elim hr; obtain ⟨v0, l1, y0, rfl, e0, hr⟩ := hr; obtain rfl := uvapi_Layout_eq _ _ e0
  replace hr := dFin hr; obtain ⟨rfl, rfl, x, h, rfl⟩ := hr
  obtain rfl := kinds_nil hc
  exact ⟨_, rfl, leads131 R14_Right hS _ x h⟩
def R14_Width : api_Layout → Option Int := R14_WidthF R14_Right
theorem lift131 : SumOK Try.prog 131 (s131 R14_Width) := ok131 R14_Right (SumsOK.of_tab ⟨lift146, trivial⟩)
def R14_MaskF (R01_Mask : Int → Option Int) (R12_Hash : api_Key → (List UInt8) → Option Int) (R13_Put : api_Tuple → Option (List UInt8)) (R14_Width : api_Layout → Option Int) (l : api_Layout) (k : api_Key) (t : api_Tuple) (n : Int) : Option Int :=
  (R13_Put t).bind fun p =>
  (R12_Hash k p).bind fun xh =>
  (R14_Width l).bind fun w =>
  (R01_Mask w).bind fun m =>
  some (andI .u64 (ixorI .u64 n xh) m)
def rx92 (x : Int) : SRes := ⟨.int .u64 x, [], []⟩
def r92 (g : api_Layout → api_Key → api_Tuple → Int → Option Int) : Dec := dV uvapi_Layout fun (y0 : api_Layout) => dV uvapi_Key fun (y1 : api_Key) => dV uvapi_Tuple fun (y2 : api_Tuple) => dV (asI .u64) fun (y3 : Int) => dEnd (ofG (g y0 y1 y2 y3) rx92)
theorem r92_c {g : api_Layout → api_Key → api_Tuple → Int → Option Int} {y0 : api_Layout} {y1 : api_Key} {y2 : api_Tuple} {y3 : Int} {x : Int} (hx : g y0 y1 y2 y3 = some x) : r92 g [.agg ⟨[.bool y0.Wide, .int .i64 y0.Slot, .int .i64 y0.Gen]⟩, .agg ⟨[.int .u64 y1.A, .int .u64 y1.B]⟩, .agg ⟨[.int .i64 y2.Proto, .bool y2.Src.V6, .int .u64 y2.Src.Hi, .int .u64 y2.Src.Lo, .bool y2.Dst.V6, .int .u64 y2.Dst.Hi, .int .u64 y2.Dst.Lo, .int .i64 y2.SPort, .int .i64 y2.DPort]⟩, .int .u64 y3] [] = some (rx92 x) := (dV_eq (uvapi_Layout_c _)).trans ((dV_eq (uvapi_Key_c _)).trans ((dV_eq (uvapi_Tuple_c _)).trans ((dV_eq (asI_c _)).trans (ofG_eq hx))))
def s92 (g : api_Layout → api_Key → api_Tuple → Int → Option Int) : Summ := ⟨[.v, .v, .v, .v], r92 g⟩
theorem r92_eq {g : api_Layout → api_Key → api_Tuple → Int → Option Int} {y0 : api_Layout} {y1 : api_Key} {y2 : api_Tuple} {y3 : Int} {x : Int} (hx : g y0 y1 y2 y3 = some x) : (s92 g).run [.agg ⟨[.bool y0.Wide, .int .i64 y0.Slot, .int .i64 y0.Gen]⟩, .agg ⟨[.int .u64 y1.A, .int .u64 y1.B]⟩, .agg ⟨[.int .i64 y2.Proto, .bool y2.Src.V6, .int .u64 y2.Src.Hi, .int .u64 y2.Src.Lo, .bool y2.Dst.V6, .int .u64 y2.Dst.Hi, .int .u64 y2.Dst.Lo, .int .i64 y2.SPort, .int .i64 y2.DPort]⟩, .int .u64 y3] [] = some (rx92 x) := r92_c hx
abbrev sums92 (R01_Mask : Int → Option Int) (R12_Hash : api_Key → (List UInt8) → Option Int) (R13_Put : api_Tuple → Option (List UInt8)) (R14_Width : api_Layout → Option Int) : List (Nat × Summ) := [(130, s130 R01_Mask), (95, s95 R12_Hash), (129, s129 R13_Put), (131, s131 R14_Width)]
theorem leads92 (R01_Mask : Int → Option Int) (R12_Hash : api_Key → (List UInt8) → Option Int) (R13_Put : api_Tuple → Option (List UInt8)) (R14_Width : api_Layout → Option Int) (hS : SumsOK Try.prog (aget (sums92 R01_Mask R12_Hash R13_Put R14_Width))) (l : api_Layout) (k : api_Key) (t : api_Tuple) (n : Int) (res : Int) (h : R14_MaskF R01_Mask R12_Hash R13_Put R14_Width l k t n = some res) :
    Leads Try.prog 92 0 ⟨⟨92, 19, [(0, .agg ⟨[.bool l.Wide, .int .i64 l.Slot, .int .i64 l.Gen]⟩), (1, .agg ⟨[.int .u64 k.A, .int .u64 k.B]⟩), (2, .agg ⟨[.int .i64 t.Proto, .bool t.Src.V6, .int .u64 t.Src.Hi, .int .u64 t.Src.Lo, .bool t.Dst.V6, .int .u64 t.Dst.Hi, .int .u64 t.Dst.Lo, .int .i64 t.SPort, .int .i64 t.DPort]⟩), (3, .int .u64 n)], [.code k92_3], [], false, none⟩, [], [], 0⟩ (fun v H _ => Res 0 (rx92 res) v H) := by
  unfold R14_MaskF at h
  refine ev_ok tab_ok hS true 3000 ?_
  conv => whnf
  replace h := obind.elim h; obtain ⟨p, hy, h⟩ := h
  refine sumK.q rfl rfl (r129_eq hy) rfl rfl rfl ?_
  conv => whnf
  replace h := obind.elim h; obtain ⟨xh, hy, h⟩ := h
  refine sumK.q rfl rfl (r95_eq hy) rfl rfl rfl ?_
  conv => whnf
  replace h := obind.elim h; obtain ⟨w, hy, h⟩ := h
  refine sumK.q rfl rfl (r131_eq hy) rfl rfl rfl ?_
  conv => whnf
  replace h := obind.elim h; obtain ⟨m, hy, h⟩ := h
  refine sumK.q rfl rfl (r130_eq hy) rfl rfl rfl ?_
  conv => whnf
  all_goals (cases h; exact Res.z rfl rfl rfl)
theorem ok92 (R01_Mask : Int → Option Int) (R12_Hash : api_Key → (List UInt8) → Option Int) (R13_Put : api_Tuple → Option (List UInt8)) (R14_Width : api_Layout → Option Int) (hS : SumsOK Try.prog (aget (sums92 R01_Mask R12_Hash R13_Put R14_Width))) : SumOK Try.prog 92 (s92 (R14_MaskF R01_Mask R12_Hash R13_Put R14_Width)) := by
  refine SumOK.of_leads tab_ok (fun ar os r ha hr => ?_) ⟨Try.f92, rfl, by decide, rfl⟩
  replace hr : r92 (R14_MaskF R01_Mask R12_Hash R13_Put R14_Width) ar (conts os) = some r := hr
  unfold r92 at hr
  generalize hc : conts os = C at hr
  replace hr := dV.elim hr; obtain ⟨v0, l1, y0, rfl, e0, hr⟩ := hr; obtain rfl := uvapi_Layout_eq _ _ e0
  replace hr := dV.elim hr; obtain ⟨v1, l2, y1, rfl, e1, hr⟩ := hr; obtain rfl := uvapi_Key_eq _ _ e1
  replace hr := dV.elim hr; obtain ⟨v2, l3, y2, rfl, e2, hr⟩ := hr; obtain rfl := uvapi_Tuple_eq _ _ e2
  replace hr := dV.elim hr; obtain ⟨v3, l4, y3, rfl, e3, hr⟩ := hr; obtain rfl := asI_eq _ _ _ e3
  replace hr := dFin hr; obtain ⟨rfl, rfl, x, h, rfl⟩ := hr
  obtain rfl := kinds_nil hc
  exact ⟨_, rfl, leads92 R01_Mask R12_Hash R13_Put R14_Width hS _ _ _ _ x h⟩
def R14_Mask : api_Layout → api_Key → api_Tuple → Int → Option Int := R14_MaskF R01_Mask R12_Hash R13_Put R14_Width
theorem lift92 : SumOK Try.prog 92 (s92 R14_Mask) := ok92 R01_Mask R12_Hash R13_Put R14_Width (SumsOK.of_tab ⟨lift130, lift95, lift129, lift131, trivial⟩)
def cookie_layout_bitsF (l : cookie_layout) : Option Int :=
  cond (l.Layout.Wide)
    (
    some (64))
    (
    some (16))
def rx158 (x : Int) : SRes := ⟨.int .i64 x, [], []⟩
def r158 (g : cookie_layout → Option Int) : Dec := dV uvcookie_layout fun (y0 : cookie_layout) => dEnd (ofG (g y0) rx158)
theorem r158_c {g : cookie_layout → Option Int} {y0 : cookie_layout} {x : Int} (hx : g y0 = some x) : r158 g [.agg ⟨[.bool y0.Layout.Wide, .int .i64 y0.Layout.Slot, .int .i64 y0.Layout.Gen]⟩] [] = some (rx158 x) := (dV_eq (uvcookie_layout_c _)).trans (ofG_eq hx)
def s158 (g : cookie_layout → Option Int) : Summ := ⟨[.v], r158 g⟩
theorem r158_eq {g : cookie_layout → Option Int} {y0 : cookie_layout} {x : Int} (hx : g y0 = some x) : (s158 g).run [.agg ⟨[.bool y0.Layout.Wide, .int .i64 y0.Layout.Slot, .int .i64 y0.Layout.Gen]⟩] [] = some (rx158 x) := r158_c hx
abbrev sums158 : List (Nat × Summ) := []
theorem leads158 (hS : SumsOK Try.prog (aget (sums158))) (l : cookie_layout) (res : Int) (h : cookie_layout_bitsF l = some res) :
    Leads Try.prog 158 0 ⟨⟨158, 6, [(0, .agg ⟨[.bool l.Layout.Wide, .int .i64 l.Layout.Slot, .int .i64 l.Layout.Gen]⟩)], [.code k158_9], [], false, none⟩, [], [], 0⟩ (fun v H _ => Res 0 (rx158 res) v H) := by
  unfold cookie_layout_bitsF at h
  refine ev_ok tab_ok hS true 3000 ?_
  conv => whnf
  refine br.h h ?_ ?_ ?_
  · rfl
  · clear h; intro hb h; conv => whnf
    all_goals (cases h; exact Res.z rfl rfl rfl)
  clear h; intro hb h; conv => whnf
  all_goals (cases h; exact Res.z rfl rfl rfl)
theorem ok158 (hS : SumsOK Try.prog (aget (sums158))) : SumOK Try.prog 158 (s158 (cookie_layout_bitsF)) := by
  refine SumOK.of_leads tab_ok (fun ar os r ha hr => ?_) ⟨Try.f158, rfl, by decide, rfl⟩
  replace hr : r158 (cookie_layout_bitsF) ar (conts os) = some r := hr
  unfold r158 at hr
  generalize hc : conts os = C at hr
  replace hr := dV.elim hr; obtain ⟨v0, l1, y0, rfl, e0, hr⟩ := hr; obtain rfl := uvcookie_layout_eq _ _ e0
  replace hr := dFin hr; obtain ⟨rfl, rfl, x, h, rfl⟩ := hr
  obtain rfl := kinds_nil hc
  exact ⟨_, rfl, leads158 hS _ x h⟩
def cookie_layout_bits : cookie_layout → Option Int := cookie_layout_bitsF
theorem lift158 : SumOK Try.prog 158 (s158 cookie_layout_bits) := ok158 (SumsOK.of_tab trivial)
def cookie_layout_mayF (cookie_layout_bits : cookie_layout → Option Int) (l : cookie_layout) : Option Bool :=
  cond (decide (l.Layout.Slot < 0))
    (
    some (false))
    (
    cond (decide (l.Layout.Slot > 12))
      (
      some (false))
      (
      cond (decide (l.Layout.Gen < 0))
        (
        some (false))
        (
        (cookie_layout_bits l).bind fun b =>
        let t := wI .i64 ((if 63 < b then 63 else b) - l.Layout.Slot)
        some (decide (l.Layout.Gen ≤ t)))))
def rx161 (x : Bool) : SRes := ⟨.bool x, [], []⟩
def r161 (g : cookie_layout → Option Bool) : Dec := dV uvcookie_layout fun (y0 : cookie_layout) => dEnd (ofG (g y0) rx161)
theorem r161_c {g : cookie_layout → Option Bool} {y0 : cookie_layout} {x : Bool} (hx : g y0 = some x) : r161 g [.agg ⟨[.bool y0.Layout.Wide, .int .i64 y0.Layout.Slot, .int .i64 y0.Layout.Gen]⟩] [] = some (rx161 x) := (dV_eq (uvcookie_layout_c _)).trans (ofG_eq hx)
def s161 (g : cookie_layout → Option Bool) : Summ := ⟨[.v], r161 g⟩
theorem r161_eq {g : cookie_layout → Option Bool} {y0 : cookie_layout} {x : Bool} (hx : g y0 = some x) : (s161 g).run [.agg ⟨[.bool y0.Layout.Wide, .int .i64 y0.Layout.Slot, .int .i64 y0.Layout.Gen]⟩] [] = some (rx161 x) := r161_c hx
abbrev sums161 (cookie_layout_bits : cookie_layout → Option Int) : List (Nat × Summ) := [(158, s158 cookie_layout_bits)]
theorem leads161 (cookie_layout_bits : cookie_layout → Option Int) (hS : SumsOK Try.prog (aget (sums161 cookie_layout_bits))) (l : cookie_layout) (res : Bool) (h : cookie_layout_mayF cookie_layout_bits l = some res) :
    Leads Try.prog 161 0 ⟨⟨161, 30, [(0, .agg ⟨[.bool l.Layout.Wide, .int .i64 l.Layout.Slot, .int .i64 l.Layout.Gen]⟩)], [.code k161_9], [], false, none⟩, [], [], 0⟩ (fun v H _ => Res 0 (rx161 res) v H) := by
  unfold cookie_layout_mayF at h
  refine ev_ok tab_ok hS true 3000 ?_
  conv => whnf
  refine br.h h ?_ ?_ ?_
  · rfl
  · clear h; intro hb h; conv => whnf
    all_goals (cases h; exact Res.z rfl rfl rfl)
  clear h; intro hb h; conv => whnf
  refine br.h h ?_ ?_ ?_
  · rfl
  · clear h; intro hb h; conv => whnf
    all_goals (cases h; exact Res.z rfl rfl rfl)
  clear h; intro hb h; conv => whnf
  refine br.h h ?_ ?_ ?_
  · rfl
  · clear h; intro hb h; conv => whnf
    all_goals (cases h; exact Res.z rfl rfl rfl)
  clear h; intro hb h; conv => whnf
  replace h := obind.elim h; obtain ⟨b, hy, h⟩ := h
  refine sumK.q rfl rfl (r158_eq hy) rfl rfl rfl ?_
  conv => whnf
  let t : Int := wI .i64 ((if 63 < b then 63 else b) - l.Layout.Slot)
  all_goals (cases h; exact Res.z rfl rfl rfl)
theorem ok161 (cookie_layout_bits : cookie_layout → Option Int) (hS : SumsOK Try.prog (aget (sums161 cookie_layout_bits))) : SumOK Try.prog 161 (s161 (cookie_layout_mayF cookie_layout_bits)) := by
  refine SumOK.of_leads tab_ok (fun ar os r ha hr => ?_) ⟨Try.f161, rfl, by decide, rfl⟩
  replace hr : r161 (cookie_layout_mayF cookie_layout_bits) ar (conts os) = some r := hr
  unfold r161 at hr
  generalize hc : conts os = C at hr
  replace hr := dV.elim hr; obtain ⟨v0, l1, y0, rfl, e0, hr⟩ := hr; obtain rfl := uvcookie_layout_eq _ _ e0
  replace hr := dFin hr; obtain ⟨rfl, rfl, x, h, rfl⟩ := hr
  obtain rfl := kinds_nil hc
  exact ⟨_, rfl, leads161 cookie_layout_bits hS _ x h⟩
def cookie_layout_may : cookie_layout → Option Bool := cookie_layout_mayF cookie_layout_bits
theorem lift161 : SumOK Try.prog 161 (s161 cookie_layout_may) := ok161 cookie_layout_bits (SumsOK.of_tab ⟨lift158, trivial⟩)
def cookie_RightF (cookie_layout_may : cookie_layout → Option Bool) (l : api_Layout) : Option Bool :=
  (cookie_layout_may (cookie_layout.mk l)).bind fun m =>
  some (m)
def rx157 (x : Bool) : SRes := ⟨.bool x, [], []⟩
def r157 (g : api_Layout → Option Bool) : Dec := dV uvapi_Layout fun (y0 : api_Layout) => dEnd (ofG (g y0) rx157)
theorem r157_c {g : api_Layout → Option Bool} {y0 : api_Layout} {x : Bool} (hx : g y0 = some x) : r157 g [.agg ⟨[.bool y0.Wide, .int .i64 y0.Slot, .int .i64 y0.Gen]⟩] [] = some (rx157 x) := (dV_eq (uvapi_Layout_c _)).trans (ofG_eq hx)
def s157 (g : api_Layout → Option Bool) : Summ := ⟨[.v], r157 g⟩
theorem r157_eq {g : api_Layout → Option Bool} {y0 : api_Layout} {x : Bool} (hx : g y0 = some x) : (s157 g).run [.agg ⟨[.bool y0.Wide, .int .i64 y0.Slot, .int .i64 y0.Gen]⟩] [] = some (rx157 x) := r157_c hx
abbrev sums157 (cookie_layout_may : cookie_layout → Option Bool) : List (Nat × Summ) := [(161, s161 cookie_layout_may)]
theorem leads157 (cookie_layout_may : cookie_layout → Option Bool) (hS : SumsOK Try.prog (aget (sums157 cookie_layout_may))) (l : api_Layout) (res : Bool) (h : cookie_RightF cookie_layout_may l = some res) :
    Leads Try.prog 157 0 ⟨⟨157, 6, [(0, .agg ⟨[.bool l.Wide, .int .i64 l.Slot, .int .i64 l.Gen]⟩)], [.code k157_3], [], false, none⟩, [], [], 0⟩ (fun v H _ => Res 0 (rx157 res) v H) := by
  unfold cookie_RightF at h
  refine ev_ok tab_ok hS true 3000 ?_
  conv => whnf
  replace h := obind.elim h; obtain ⟨m, hy, h⟩ := h
  refine sumK.q rfl rfl (r161_eq hy) rfl rfl rfl ?_
  conv => whnf
  all_goals (cases h; exact Res.z rfl rfl rfl)
theorem ok157 (cookie_layout_may : cookie_layout → Option Bool) (hS : SumsOK Try.prog (aget (sums157 cookie_layout_may))) : SumOK Try.prog 157 (s157 (cookie_RightF cookie_layout_may)) := by
  refine SumOK.of_leads tab_ok (fun ar os r ha hr => ?_) ⟨Try.f157, rfl, by decide, rfl⟩
  replace hr : r157 (cookie_RightF cookie_layout_may) ar (conts os) = some r := hr
  unfold r157 at hr
  generalize hc : conts os = C at hr
  replace hr := dV.elim hr; obtain ⟨v0, l1, y0, rfl, e0, hr⟩ := hr; obtain rfl := uvapi_Layout_eq _ _ e0
  replace hr := dFin hr; obtain ⟨rfl, rfl, x, h, rfl⟩ := hr
  obtain rfl := kinds_nil hc
  exact ⟨_, rfl, leads157 cookie_layout_may hS _ x h⟩
def cookie_Right : api_Layout → Option Bool := cookie_RightF cookie_layout_may
theorem lift157 : SumOK Try.prog 157 (s157 cookie_Right) := ok157 cookie_layout_may (SumsOK.of_tab ⟨lift161, trivial⟩)
end Go.Vm.Code
