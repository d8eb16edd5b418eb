import Derived.Test.YtadhjooghfdloaaNRegistryOthersd
namespace Go.Vm.Code
open Go Go.Vm Go.Proofs
set_option maxRecDepth 100000
set_option maxHeartbeats 4000000
set_option linter.unusedVariables false
def registry_Registry_Version_nilF (registry_Registry_given : registry_Registry → Option Bool) (registry_Registry_given_nil : Option Bool) : Option Int :=
  (registry_Registry_given_nil).bind fun n =>
  cond (!n)
    (
    some (0))
    (
    none)
def rx24n (x : Int) : SRes := ⟨.int .i64 x, [], [none, none]⟩
def r24n (g : Option Int) : Dec := dNl 2 <| dEnd (ofG (g) rx24n)
theorem r24n_c {g : Option Int} {x : Int} (hx : g = some x) : r24n g [.pointer none] [none, none] = some (rx24n x) := (dNl_2).trans (ofG_eq hx)
abbrev sums24n (registry_Registry_given : registry_Registry → Option Bool) (registry_Registry_given_nil : Option Bool) : List (Nat × Summ) := [(70, s70 registry_Registry_given registry_Registry_given_nil)]
theorem leads24n (registry_Registry_given : registry_Registry → Option Bool) (registry_Registry_given_nil : Option Bool) (hS : SumsOK Try.prog (aget (sums24n registry_Registry_given registry_Registry_given_nil))) (res : Int) (h : registry_Registry_Version_nilF registry_Registry_given registry_Registry_given_nil = some res) :
    Leads Try.prog 24 2 ⟨⟨24, 10, [(0, .pointer none)], [.code k24_9], [], false, none⟩, [], [], 2⟩ (fun v H _ => Res 2 (rx24n res) v H) := by
  unfold registry_Registry_Version_nilF at h
  refine ev_ok tab_ok hS true 3000 ?_
  conv => whnf
  replace h := obind.elim h; obtain ⟨n, hy, h⟩ := h
  refine sumK.introF [] (sumRun_of (aqs := [.pointer none]) (ws := [.no, .no]) (n := 0) (m := 0) (t' := 2) (ra_cons rfl rfl ra_nil) rfl (by rfl) (r70n_eq hy) rfl rfl rfl rfl (wb_skip rfl (wb_skip rfl wb_nil)) an_nil rfl) ?_
  conv => whnf
  refine br.h h ?_ ?_ ?_
  · rfl
  · clear h; intro hb h; conv => whnf
    all_goals (cases h)
    all_goals exact Res.of [] rfl nw_0 (by decide) js_0 (wr_n (wr_n wr_0))
  clear h; intro hb h; conv => whnf
  cases h
def registry_Registry_VersionF (registry_Registry_given : registry_Registry → Option Bool) (registry_Registry_given_nil : Option Bool) (ga0 : registry_Registry) : Option Int :=
  (registry_Registry_given ga0).bind fun xg =>
  cond (!xg)
    (
    some (0))
    (
    some (ga0.version))
def rx24 (x : Int) : SRes := ⟨.int .i64 x, [], [none, none]⟩
def r24 (g : registry_Registry → Option Int) : Dec := dTr 2 (udregistry_Registry 0) fun (y0 : registry_Registry) => dEnd (ofG (g y0) rx24)
theorem r24_c {g : registry_Registry → Option Int} {y0 : registry_Registry} {x : Int} (hx : g y0 = some x) : r24 g [.pointer (some ⟨0, 0, none⟩)] [some [.int .i64 y0.rule.Rise, .int .i64 y0.rule.Fall, .slice (some ⟨1, 0, none⟩) y0.rows.length 9, .int .i64 y0.last, .int .i64 y0.version], some (vT cregistry_row y0.rows)] = some (rx24 x) := (dTr_eq rfl rfl (udregistry_Registry_c 0 _)).trans (ofG_eq hx)
def s24 (g : registry_Registry → Option Int) (g2 : Option Int) : Summ := ⟨[.tr [⟨none, 0, 0, 0, none⟩, ⟨some 0, 2, 0, 0, some 9⟩]], pickN 0 (r24 g) (r24n g2)⟩
theorem r24_eq {g : registry_Registry → Option Int} {g2 : Option Int} {y0 : registry_Registry} {x : Int} (hx : g y0 = some x) : (s24 g g2).run [.pointer (some ⟨0, 0, none⟩)] [some [.int .i64 y0.rule.Rise, .int .i64 y0.rule.Fall, .slice (some ⟨1, 0, none⟩) y0.rows.length 9, .int .i64 y0.last, .int .i64 y0.version], some (vT cregistry_row y0.rows)] = some (rx24 x) := r24_c hx
theorem r24n_eq {g2 : registry_Registry → Option Int} {g : Option Int} {x : Int} (hx : g = some x) : (s24 g2 g).run [.pointer none] [none, none] = some (rx24n x) := r24n_c hx
abbrev sums24 (registry_Registry_given : registry_Registry → Option Bool) (registry_Registry_given_nil : Option Bool) : List (Nat × Summ) := [(70, s70 registry_Registry_given registry_Registry_given_nil)]
theorem leads24 (registry_Registry_given : registry_Registry → Option Bool) (registry_Registry_given_nil : Option Bool) (hS : SumsOK Try.prog (aget (sums24 registry_Registry_given registry_Registry_given_nil))) (ga0 : registry_Registry) (res : Int) (h : registry_Registry_VersionF registry_Registry_given registry_Registry_given_nil ga0 = some res) :
    Leads Try.prog 24 2 ⟨⟨24, 10, [(0, .pointer (some ⟨0, 0, none⟩))], [.code k24_9], [], false, none⟩, [], [(0, .row false [.int .i64 ga0.rule.Rise, .int .i64 ga0.rule.Fall, .slice (some ⟨1, 0, none⟩) ga0.rows.length 9, .int .i64 ga0.last, .int .i64 ga0.version]), (1, .row false (vT cregistry_row ga0.rows))], 2⟩ (fun v H _ => Res 2 (rx24 res) v H) := by
  unfold registry_Registry_VersionF at h
  refine ev_ok tab_ok hS true 3000 ?_
  conv => whnf
  replace h := obind.elim h; obtain ⟨xg, hy, h⟩ := h
  refine sumK.introF [] (sumRun_of (aqs := [.pointer (some ⟨0, 0, none⟩)]) (ws := [.blk 0 false, .blk 1 false]) (n := 0) (m := 0) (t' := 2) (ra_cons (ra_tr rfl rfl (vp_at rfl rfl rfl rfl (vp_at rfl rfl (rn_T cregistry_row_flat) rfl vp_nil)) rfl) rfl ra_nil) rfl (by rfl) (r70_eq hy) rfl rfl rfl rfl (wb_skip rfl (wb_skip rfl wb_nil)) an_nil rfl) ?_
  conv => whnf
  refine br.h h ?_ ?_ ?_
  · rfl
  · clear h; intro hb h; conv => whnf
    all_goals (cases h)
    all_goals exact Res.of [] rfl nw_0 (by decide) js_0 (wr_n (wr_n wr_0))
  clear h; intro hb h; conv => whnf
  all_goals (cases h)
  all_goals exact Res.of [] rfl nw_0 (by decide) js_0 (wr_n (wr_n wr_0))
theorem ok24 (registry_Registry_given : registry_Registry → Option Bool) (registry_Registry_given_nil : Option Bool) (hS : SumsOK Try.prog (aget (sums24 registry_Registry_given registry_Registry_given_nil))) (hS2 : SumsOK Try.prog (aget (sums24n registry_Registry_given registry_Registry_given_nil))) : SumOK Try.prog 24 (s24 (registry_Registry_VersionF registry_Registry_given registry_Registry_given_nil) (registry_Registry_Version_nilF registry_Registry_given registry_Registry_given_nil)) := by
  refine SumOK.of_leads tab_ok (fun ar os r ha hr => ?_) ⟨Try.f24, rfl, by decide, rfl⟩
  have hp := pickN.elim hr; clear hr; rcases hp with hr | hr
  · skip
    replace hr : r24 (registry_Registry_VersionF registry_Registry_given registry_Registry_given_nil) ar (conts os) = some r := hr
    unfold r24 at hr
    generalize hc : conts os = C at hr
    have hq := dTr.elim hr; clear hr; obtain ⟨v0, l1, c0, C, y0, rfl, rfl, e0, hr⟩ := hq; obtain ⟨rfl, rfl⟩ := udregistry_Registry_eq e0; simp only [List.nil_append, List.cons_append] at hc
    replace hr := dFin hr; obtain ⟨rfl, rfl, x, h, rfl⟩ := hr
    obtain ⟨os, rfl, ha, hc⟩ := kinds_some ha hc
    obtain ⟨os, rfl, ha, hc⟩ := kinds_some ha hc
    obtain rfl := kinds_nil hc
    exact ⟨_, rfl, leads24 registry_Registry_given registry_Registry_given_nil hS _ x h⟩
  · skip
    replace hr : r24n (registry_Registry_Version_nilF registry_Registry_given registry_Registry_given_nil) ar (conts os) = some r := hr
    unfold r24n at hr
    generalize hc : conts os = C at hr
    have hq := dNl.elim hr; clear hr; obtain ⟨l1, C, rfl, rfl, hr⟩ := hq; simp only [List.replicate, List.nil_append, List.cons_append] at hc
    replace hr := dFin hr; obtain ⟨rfl, rfl, x, h, rfl⟩ := hr
    obtain ⟨os, rfl, ha, hc⟩ := kinds_none ha hc
    obtain ⟨os, rfl, ha, hc⟩ := kinds_none ha hc
    obtain rfl := kinds_nil hc
    exact ⟨_, rfl, leads24n registry_Registry_given registry_Registry_given_nil hS2 x h⟩
def registry_Registry_Version : registry_Registry → Option Int := registry_Registry_VersionF registry_Registry_given registry_Registry_given_nil
def registry_Registry_Version_nil : Option Int := registry_Registry_Version_nilF registry_Registry_given registry_Registry_given_nil
theorem lift24 : SumOK Try.prog 24 (s24 registry_Registry_Version registry_Registry_Version_nil) := ok24 registry_Registry_given registry_Registry_given_nil (SumsOK.of_tab ⟨lift70, trivial⟩) (SumsOK.of_tab ⟨lift70, trivial⟩)
end Go.Vm.Code
namespace Go.Vm.Code
open Go Go.Vm
theorem iter_build {β ρ : Type} (F : Nat → β) (N : Nat) (step : Int × List β → Option (Sum (Int × List β) ρ)) (fin : List β → ρ)
    (h1 : ∀ i : Nat, i < N → ∀ out : List β, out.length = i → step ((i : Int), out) = some (.inl (((i + 1 : Nat) : Int), out ++ [F i])))
    (h2 : ∀ out : List β, out.length = N → step ((N : Int), out) = some (.inr (fin out))) {n : Nat} (hn : N < n) : iter step n (0, []) = some (fin ((List.range N).map F)) := by
  refine iter_eq (fun _ => fin ((List.range N).map F)) (fun s => ∃ i : Nat, i ≤ N ∧ s = ((i : Int), (List.range i).map F)) (fun s => N - s.1.toNat) ?_ n _ ⟨0, Nat.zero_le _, rfl⟩ (by simp; omega)
  rintro s ⟨i, hi, rfl⟩
  rcases Nat.lt_or_ge i N with h | h
  · right
    refine ⟨_, h1 i h _ (by simp), ⟨i + 1, h, ?_⟩, ?_, rfl⟩
    · rw [List.range_succ, List.map_append]; rfl
    · simp only [Int.toNat_natCast]; omega
  · left
    have e : i = N := by omega
    subst e
    exact h2 _ (by simp)
theorem range_map {α β : Type} (L : List α) (f : α → β) (F : Nat → β) (h : ∀ i (hi : i < L.length), F i = f L[i]) : (List.range L.length).map F = L.map f := by
  apply List.ext_getElem
  · simp
  · intro i h1 h2
    simp only [List.length_map, List.length_range] at h1
    simp [h i h1]
def rid (r : registry_row) : Int := r.Backend.ID
def tld (r : registry_row) : api_Backend := ⟨r.Backend.ID, r.Backend.Weight, if r.drains then 3 else if r.health.Up then 1 else 2, r.Backend.Addr⟩
def rst (r : registry_row) : registry_row := ⟨r.Backend, r.drains, ⟨true, 0⟩⟩
theorem told_eq (r : registry_row) : registry_row_told r = some (tld r) := by
  unfold registry_row_told registry_row_toldF tld
  cases r.drains <;> cases r.health.Up <;> rfl
def ruleB (r : health_Rule) : Bool := decide (1 ≤ r.Rise ∧ r.Rise ≤ 100 ∧ 1 ≤ r.Fall ∧ r.Fall ≤ 100)
theorem within_eq (n a b : Int) : health_within n a b = some (decide (a ≤ n ∧ n ≤ b)) := by
  unfold health_within health_withinF
  by_cases h : a ≤ n
  · rw [cond_p h]; simp [h]
  · rw [cond_n h]; simp [h]
theorem hright_eq (r : health_Rule) : health_Right r = some (ruleB r) := by
  unfold health_Right health_RightF ruleB
  rw [within_eq, within_eq, Option.bind_some, Option.bind_some]
  by_cases h : 1 ≤ r.Rise ∧ r.Rise ≤ 100
  · rw [cond_p h]; simp [h]
  · rw [cond_n h]; simp; omega
def weighB (n : Int) : Bool := decide (0 ≤ n ∧ n ≤ 1000)
theorem weighs_eq (n : Int) : registry_weighs n = some (weighB n) := by
  unfold registry_weighs registry_weighsF weighB
  by_cases h : 0 ≤ n
  · rw [cond_p h]; simp [h]
  · rw [cond_n h]; simp [h]
def adrB (a : api_Addr) : Bool := a.V6 || (a.Hi == 0 && decide (a.Lo < 4294967296))
theorem aright_eq (a : api_Addr) : addr_Right a = some (adrB a) := by
  unfold addr_Right addr_RightF adrB
  cases a.V6
  · cases a.Hi == 0 <;> rfl
  · rfl
structure RI (N : Int) (g : registry_Registry) : Prop where
  rule : ruleB g.rule = true
  len : g.rows.length ≤ 64
  last0 : 0 ≤ g.last
  last1 : g.last ≤ 65535
  ver0 : 0 ≤ g.version
  ver1 : g.version ≤ N
  ids : ∀ i ∈ g.rows.map rid, 1 ≤ i ∧ i ≤ g.last
  up : (g.rows.map rid).Pairwise (· < ·)
theorem RI.id_at {N : Int} {g : registry_Registry} (h : RI N g) {k : Nat} {r : registry_row} (hk : g.rows[k]? = some r) : 1 ≤ r.Backend.ID ∧ r.Backend.ID ≤ g.last :=
  h.ids _ (List.mem_map.2 ⟨r, List.mem_of_getElem? hk, rfl⟩)
theorem RI.lt {N : Int} {g : registry_Registry} (h : RI N g) {j k : Nat} {q r : registry_row} (hj : g.rows[j]? = some q) (hk : g.rows[k]? = some r) (hjk : j < k) : q.Backend.ID < r.Backend.ID := by
  obtain ⟨h1, e1⟩ := List.getElem?_eq_some_iff.1 hj
  obtain ⟨h2, e2⟩ := List.getElem?_eq_some_iff.1 hk
  have := List.pairwise_iff_getElem.1 h.up j k (by simpa) (by simpa) hjk
  simpa [rid, e1, e2] using this
theorem given_eq {N : Int} {g : registry_Registry} (h : RI N g) : registry_Registry_given g = some true := by
  unfold registry_Registry_given registry_Registry_givenF
  rw [hright_eq, Option.bind_some, h.rule]
theorem find1_eq {r : registry_row} {id : Int} (h1 : 1 ≤ r.Backend.ID) (h2 : r.Backend.ID ≤ 65535) : ∃ x, registry_Registry_find_1 r id = some x ∧ (x < 0 ↔ r.Backend.ID < id) ∧ (x = 0 ↔ r.Backend.ID = id) := by
  unfold registry_Registry_find_1 registry_Registry_find_1F
  have e : ∀ t : Int, 0 ≤ t → t ≤ 65536 → wI .i64 (r.Backend.ID - t) = r.Backend.ID - t := fun t _ _ => wI64 (by omega) (by omega)
  refine ⟨_, rfl, ?_⟩
  by_cases h : 65536 < id
  · simp only [h, ↓reduceIte, show (65536 : Int) > 0 from by decide]
    rw [e _ (by omega) (by omega)]; omega
  · by_cases h0 : id > 0
    · simp only [h, h0, ↓reduceIte]
      rw [e _ (by omega) (by omega)]; omega
    · simp only [h, h0, ↓reduceIte]
      rw [e _ (by omega) (by omega)]; omega
def lowN (rows : List registry_row) (id : Int) : Nat := (rows.takeWhile fun r => decide (r.Backend.ID < id)).length
theorem lowN_le (rows : List registry_row) (id : Int) : lowN rows id ≤ rows.length := (List.takeWhile_sublist _).length_le
theorem lowN_iff {id : Int} : ∀ {rows : List registry_row}, (rows.map rid).Pairwise (· < ·) → ∀ {k : Nat} {r : registry_row}, rows[k]? = some r → (r.Backend.ID < id ↔ k < lowN rows id)
  | [], _, k, r, h => by simp at h
  | q :: rows, hp, k, r, h => by
    rw [List.map_cons, List.pairwise_cons] at hp
    unfold lowN
    by_cases hq : q.Backend.ID < id
    · rw [List.takeWhile_cons_of_pos (by simpa using hq), List.length_cons]
      cases k with
      | zero => simp at h; subst h; simp [hq]
      | succ k => have := lowN_iff (id := id) hp.2 (k := k) (by simpa using h); unfold lowN at this; omega
    · rw [List.takeWhile_cons_of_neg (by simpa using hq)]
      cases k with
      | zero => simp at h; subst h; simp [hq]
      | succ k =>
        have hm : r ∈ rows := List.mem_of_getElem? (by simpa using h)
        have := hp.1 _ (List.mem_map.2 ⟨r, hm, rfl⟩)
        simp only [rid] at this
        simp; omega
theorem find_eq {N : Int} {g : registry_Registry} (h : RI N g) (id : Int) : registry_Registry_find g id = some ((lowN g.rows id : Int), match g.rows[lowN g.rows id]? with | some r => decide (r.Backend.ID = id) | none => false) := by
  unfold registry_Registry_find registry_Registry_findF
  have hl := lowN_le g.rows id
  have hlen := h.len
  refine iter_eq (fun _ => ((lowN g.rows id : Int), match g.rows[lowN g.rows id]? with | some r => decide (r.Backend.ID = id) | none => false))
    (fun (s : Int × Int) => 0 ≤ s.1 ∧ s.1 ≤ lowN g.rows id ∧ (lowN g.rows id : Int) ≤ s.2 ∧ s.2 ≤ g.rows.length) (fun (s : Int × Int) => (s.2 - s.1).toNat) ?_ FUEL (0, (g.rows.length : Int)) ⟨by simp, by simp, by simpa using hl, by simp⟩ (by rw [FUEL_eq]; simp only []; omega)
  rintro ⟨i, j⟩ ⟨h0, h1, h2, h3⟩
  simp only at h0 h1 h2 h3
  dsimp only
  unfold registry_Registry_find_s1
  by_cases hij : i < j
  · right
    rw [cond_p hij]
    have et : wI .i64 ((wI .u64 (wI .i64 (i + j))).fdiv (2 ^ 1)) = (i + j) / 2 := by
      rw [wI64 (n := i + j) (by omega) (by omega), wU64 (by omega) (by omega), fdivP, wI64 (by omega) (by omega)]; rfl
    simp only [et]
    obtain ⟨m, hm⟩ := Int.eq_ofNat_of_zero_le (show 0 ≤ (i + j) / 2 by omega)
    rw [hm, oreq_p ⟨by omega, by omega⟩]
    have hlt : m < g.rows.length := by omega
    rw [Int.toNat_natCast, List.getElem?_eq_getElem hlt, Option.bind_some]
    have hk := List.getElem?_eq_getElem hlt
    have hid := h.id_at hk
    obtain ⟨x, hx, hx1, hx2⟩ := find1_eq (id := id) hid.1 (by have := h.last1; omega)
    rw [hx, Option.bind_some]
    have hiff := lowN_iff (id := id) h.up hk
    by_cases hc : x < 0
    · rw [cond_p hc]
      have hml : m < lowN g.rows id := hiff.1 (hx1.1 hc)
      refine ⟨_, rfl, ⟨?_, ?_, h2, h3⟩, ?_, by trivial⟩
      · simp only []; rw [wI64 (by omega) (by omega)]; omega
      · simp only []; rw [wI64 (by omega) (by omega)]; omega
      · simp only []; rw [wI64 (by omega) (by omega)]; omega
    · rw [cond_n hc]
      have hml : ¬ m < lowN g.rows id := fun e => hc (hx1.2 (hiff.2 e))
      exact ⟨_, rfl, ⟨h0, h1, by simp only []; omega, by simp only []; omega⟩, by simp only []; omega, by trivial⟩
  · left
    rw [cond_n hij]
    have ei : i = lowN g.rows id := by omega
    subst ei
    by_cases hlt : lowN g.rows id < g.rows.length
    · rw [cond_p (by omega), oreq_p ⟨by omega, by omega⟩, Int.toNat_natCast, List.getElem?_eq_getElem hlt, Option.bind_some]
      have hk := List.getElem?_eq_getElem hlt
      have hid := h.id_at hk
      obtain ⟨x, hx, hx1, hx2⟩ := find1_eq (id := id) hid.1 (by have := h.last1; omega)
      rw [hx, Option.bind_some]
      congr 3
      rw [Bool.eq_iff_iff]; simp [hx2]
    · rw [cond_n (by omega), List.getElem?_eq_none (by omega)]
theorem find_yes {N : Int} {g : registry_Registry} (h : RI N g) {k : Nat} {r : registry_row} (hk : g.rows[k]? = some r) : registry_Registry_find g r.Backend.ID = some ((k : Int), true) := by
  have h1 := lowN_iff (id := r.Backend.ID) h.up hk
  have e : lowN g.rows r.Backend.ID = k := by
    rcases Nat.lt_trichotomy (lowN g.rows r.Backend.ID) k with hl | hl | hl
    · exfalso
      have hkl : k < g.rows.length := (List.getElem?_eq_some_iff.1 hk).1
      have hq := List.getElem?_eq_getElem (show lowN g.rows r.Backend.ID < g.rows.length by omega)
      have := (lowN_iff (id := r.Backend.ID) h.up hq).1 (h.lt hq hk hl)
      omega
    · exact hl
    · exfalso; have := h1.2 hl; omega
  rw [find_eq h, e, hk]; simp
theorem find_no {N : Int} {g : registry_Registry} (h : RI N g) {id : Int} (hn : ∀ (k : Nat) r, g.rows[k]? = some r → r.Backend.ID ≠ id) : ∃ i, registry_Registry_find g id = some (i, false) := by
  rw [find_eq h]
  refine ⟨(lowN g.rows id : Int), ?_⟩
  congr 2
  split
  · rename_i r hr; simpa using hn _ _ hr
  · rfl
end Go.Vm.Code
namespace Go.Vm.Code
open Go Go.Vm Go.Proofs
set_option maxRecDepth 100000
set_option maxHeartbeats 4000000
set_option linter.unusedVariables false
def registry_Registry_DrainF (registry_Registry_find : registry_Registry → Int → Option (Int × Bool)) (registry_Registry_find_nil : Int → Option (Int × Bool)) (registry_Registry_given : registry_Registry → Option Bool) (registry_Registry_given_nil : Option Bool) (ga0 : registry_Registry) (ida1 : Int) (on : Bool) : Option (Int × registry_Registry) :=
  (registry_Registry_given ga0).bind fun xg =>
  cond (!xg)
    (
    some ((1, ga0)))
    (
    (registry_Registry_find ga0 ida1).bind fun f =>
    cond (!f.2)
      (
      some ((13, ga0)))
      (
      oreq (decide ((0 : Int) ≤ f.1 ∧ f.1 < (ga0.rows.length : Int))) <|
      (ga0.rows[f.1.toNat]?).bind fun (e : registry_row) =>
      cond (e.drains == on)
        (
        some ((11, ga0)))
        (
        let row := ga0.rows.set f.1.toNat (registry_row.mk e.Backend on e.health)
        some ((0, registry_Registry.mk ga0.rule row ga0.last (wI .i64 (ga0.version + 1)))))))
def rx28 (x : Int × registry_Registry) : SRes := ⟨.int .i64 x.1, [(vT cregistry_row x.2.rows)], [some [.int .i64 x.2.rule.Rise, .int .i64 x.2.rule.Fall, .slice (some ⟨0, 0, none⟩) x.2.rows.length 9, .int .i64 x.2.last, .int .i64 x.2.version], none]⟩
def r28 (g : registry_Registry → Int → Bool → Option (Int × registry_Registry)) : Dec := dTr 2 (udregistry_Registry 0) fun (y0 : registry_Registry) => dV (asI .i64) fun (y1 : Int) => dV asB fun (y2 : Bool) => dEnd (ofG (g y0 y1 y2) rx28)
theorem r28_c {g : registry_Registry → Int → Bool → Option (Int × registry_Registry)} {y0 : registry_Registry} {y1 : Int} {y2 : Bool} {x : Int × registry_Registry} (hx : g y0 y1 y2 = some x) : r28 g [.pointer (some ⟨0, 0, none⟩), .int .i64 y1, .bool y2] [some [.int .i64 y0.rule.Rise, .int .i64 y0.rule.Fall, .slice (some ⟨1, 0, none⟩) y0.rows.length 9, .int .i64 y0.last, .int .i64 y0.version], some (vT cregistry_row y0.rows)] = some (rx28 x) := (dTr_eq rfl rfl (udregistry_Registry_c 0 _)).trans ((dV_eq (asI_c _)).trans ((dV_eq (asB_c)).trans (ofG_eq hx)))
def s28 (g : registry_Registry → Int → Bool → Option (Int × registry_Registry)) : Summ := ⟨[.tr [⟨none, 0, 0, 1, none⟩, ⟨some 0, 2, 0, 2, some 9⟩], .v, .v], r28 g⟩
theorem r28_eq {g : registry_Registry → Int → Bool → Option (Int × registry_Registry)} {y0 : registry_Registry} {y1 : Int} {y2 : Bool} {x : Int × registry_Registry} (hx : g y0 y1 y2 = some x) : (s28 g).run [.pointer (some ⟨0, 0, none⟩), .int .i64 y1, .bool y2] [some [.int .i64 y0.rule.Rise, .int .i64 y0.rule.Fall, .slice (some ⟨1, 0, none⟩) y0.rows.length 9, .int .i64 y0.last, .int .i64 y0.version], some (vT cregistry_row y0.rows)] = some (rx28 x) := r28_c hx
abbrev sums28 (registry_Registry_find : registry_Registry → Int → Option (Int × Bool)) (registry_Registry_find_nil : Int → Option (Int × Bool)) (registry_Registry_given : registry_Registry → Option Bool) (registry_Registry_given_nil : Option Bool) : List (Nat × Summ) := [(71, s71 registry_Registry_find registry_Registry_find_nil), (70, s70 registry_Registry_given registry_Registry_given_nil)]
theorem leads28 (registry_Registry_find : registry_Registry → Int → Option (Int × Bool)) (registry_Registry_find_nil : Int → Option (Int × Bool)) (registry_Registry_given : registry_Registry → Option Bool) (registry_Registry_given_nil : Option Bool) (hS : SumsOK Try.prog (aget (sums28 registry_Registry_find registry_Registry_find_nil registry_Registry_given registry_Registry_given_nil))) (ga0 : registry_Registry) (ida1 : Int) (on : Bool) (res : Int × registry_Registry) (h : registry_Registry_DrainF registry_Registry_find registry_Registry_find_nil registry_Registry_given registry_Registry_given_nil ga0 ida1 on = some res) :
    Leads Try.prog 28 2 ⟨⟨28, 11, [(0, .pointer (some ⟨0, 0, none⟩)), (1, .int .i64 ida1), (2, .bool on)], [.code k28_3], [], false, none⟩, [], [(0, .cells [.int .i64 ga0.rule.Rise, .int .i64 ga0.rule.Fall, .slice (some ⟨1, 0, none⟩) ga0.rows.length 9, .int .i64 ga0.last, .int .i64 ga0.version]), (1, .row true (vT cregistry_row ga0.rows))], 2⟩ (fun v H _ => Res 2 (rx28 res) v H) := by
  unfold registry_Registry_DrainF at h
  refine ev_ok tab_ok hS true 3000 ?_
  conv => whnf
  replace h := obind.elim h; obtain ⟨xg, hy, h⟩ := h
  refine sumK.introF [] (sumRun_of (aqs := [.pointer (some ⟨0, 0, none⟩)]) (ws := [.blk 0 false, .blk 1 false]) (n := 0) (m := 0) (t' := 3) (ra_cons (ra_tr rfl rfl (vp_at rfl rfl rfl rfl (vp_at rfl rfl (rn_T cregistry_row_flat) rfl vp_nil)) rfl) rfl ra_nil) rfl (by rfl) (r70_eq hy) rfl rfl rfl rfl (wb_skip rfl (wb_skip rfl wb_nil)) an_nil rfl) ?_
  conv => whnf
  refine br.h h ?_ ?_ ?_
  · rfl
  · clear h; intro hb h; conv => whnf
    all_goals (cases h)
    all_goals exact Res.of [1] rfl (nw_s (rn_T cregistry_row_flat) (hs_row rfl) nw_0) (by decide) (js_r rfl js_0) (wr_s (rfl) (hs_cells rfl) (wr_n wr_0))
  clear h; intro hb h; conv => whnf
  replace h := obind.elim h; obtain ⟨f, hy, h⟩ := h
  refine sumK.introF [] (sumRun_of (aqs := [.pointer (some ⟨0, 0, none⟩), .int .i64 ida1]) (ws := [.blk 0 false, .blk 1 false]) (n := 0) (m := 0) (t' := 3) (ra_cons (ra_tr rfl rfl (vp_at rfl rfl rfl rfl (vp_at rfl rfl (rn_T cregistry_row_flat) rfl vp_nil)) rfl) rfl (ra_cons rfl rfl ra_nil)) rfl (by rfl) (r71_eq hy) rfl rfl rfl rfl (wb_skip rfl (wb_skip rfl wb_nil)) an_nil rfl) ?_
  conv => whnf
  refine br.h h ?_ ?_ ?_
  · rfl
  · clear h; intro hb h; conv => whnf
    all_goals (cases h)
    all_goals exact Res.of [1] rfl (nw_s (rn_T cregistry_row_flat) (hs_row rfl) nw_0) (by decide) (js_r rfl js_0) (wr_s (rfl) (hs_cells rfl) (wr_n wr_0))
  clear h; intro hb h; conv => whnf
  replace h := oreq.elim h; obtain ⟨hb, h⟩ := h
  first | (refine req.intro hb ?_; conv => whnf) | skip
  replace h := obind.elim h; obtain ⟨e, hy, h⟩ := h
  refine rd.T (j := 6) cregistry_row_len hy (by first | omega | exact Nat.zero_add _ | exact congrArg (· + _) (Nat.zero_add _)) (by decide) rfl ?_
  conv => whnf
  refine br.h h ?_ ?_ ?_
  · rfl
  · clear h; intro hb h; conv => whnf
    all_goals (cases h)
    all_goals exact Res.of [1] rfl (nw_s (rn_T cregistry_row_flat) (hs_row rfl) nw_0) (by decide) (js_r rfl js_0) (wr_s (rfl) (hs_cells rfl) (wr_n wr_0))
  clear h; intro hb h; conv => whnf
  refine st_T (i := f.1.toNat) (x := e) (x' := registry_row.mk e.Backend on e.health) (j := 6) cregistry_row_len (by assumption) (by first | omega | exact Nat.zero_add _ | exact congrArg (· + _) (Nat.zero_add _)) (by decide) ⟨rfl, rfl⟩ rfl ?_
  conv => whnf
  let row : List registry_row := ga0.rows.set f.1.toNat (registry_row.mk e.Backend on e.health)
  try rw [show ga0.rows.length = row.length from (List.length_set ..).symm]
  conv => whnf
  all_goals (cases h)
  all_goals exact Res.of [1] rfl (nw_s (rn_T cregistry_row_flat) (hs_row rfl) nw_0) (by decide) (js_r rfl js_0) (wr_s (rfl) (hs_cells rfl) (wr_n wr_0))
theorem ok28 (registry_Registry_find : registry_Registry → Int → Option (Int × Bool)) (registry_Registry_find_nil : Int → Option (Int × Bool)) (registry_Registry_given : registry_Registry → Option Bool) (registry_Registry_given_nil : Option Bool) (hS : SumsOK Try.prog (aget (sums28 registry_Registry_find registry_Registry_find_nil registry_Registry_given registry_Registry_given_nil))) : SumOK Try.prog 28 (s28 (registry_Registry_DrainF registry_Registry_find registry_Registry_find_nil registry_Registry_given registry_Registry_given_nil)) := by
  refine SumOK.of_leads tab_ok (fun ar os r ha hr => ?_) ⟨Try.f28, rfl, by decide, rfl⟩
  replace hr : r28 (registry_Registry_DrainF registry_Registry_find registry_Registry_find_nil registry_Registry_given registry_Registry_given_nil) ar (conts os) = some r := hr
  unfold r28 at hr
  generalize hc : conts os = C at hr
  have hq := dTr.elim hr; clear hr; obtain ⟨v0, l1, c0, C, y0, rfl, rfl, e0, hr⟩ := hq; obtain ⟨rfl, rfl⟩ := udregistry_Registry_eq e0; simp only [List.nil_append, List.cons_append] at hc
  replace hr := dV.elim hr; obtain ⟨v1, l2, y1, rfl, e1, hr⟩ := hr; obtain rfl := asI_eq _ _ _ e1
  replace hr := dV.elim hr; obtain ⟨v2, l3, y2, rfl, e2, hr⟩ := hr; obtain rfl := asB_eq _ _ e2
  replace hr := dFin hr; obtain ⟨rfl, rfl, x, h, rfl⟩ := hr
  obtain ⟨os, rfl, ha, hc⟩ := kinds_some ha hc
  obtain ⟨os, rfl, ha, hc⟩ := kinds_some ha hc
  obtain rfl := kinds_nil hc
  exact ⟨_, rfl, leads28 registry_Registry_find registry_Registry_find_nil registry_Registry_given registry_Registry_given_nil hS _ _ _ x h⟩
def registry_Registry_Drain : registry_Registry → Int → Bool → Option (Int × registry_Registry) := registry_Registry_DrainF registry_Registry_find registry_Registry_find_nil registry_Registry_given registry_Registry_given_nil
theorem lift28 : SumOK Try.prog 28 (s28 registry_Registry_Drain) := ok28 registry_Registry_find registry_Registry_find_nil registry_Registry_given registry_Registry_given_nil (SumsOK.of_tab ⟨lift71, lift70, trivial⟩)
def registry_Registry_WeightF (registry_Registry_find : registry_Registry → Int → Option (Int × Bool)) (registry_Registry_find_nil : Int → Option (Int × Bool)) (registry_Registry_given : registry_Registry → Option Bool) (registry_Registry_given_nil : Option Bool) (registry_weighs : Int → Option Bool) (ga0 : registry_Registry) (ida1 : Int) (weight : Int) : Option (Int × registry_Registry) :=
  (registry_Registry_given ga0).bind fun xg =>
  cond (!xg)
    (
    some ((1, ga0)))
    (
    (registry_Registry_find ga0 ida1).bind fun f =>
    cond (!f.2)
      (
      some ((13, ga0)))
      (
      oreq (decide ((0 : Int) ≤ f.1 ∧ f.1 < (ga0.rows.length : Int))) <|
      (registry_weighs weight).bind fun w =>
      cond (!w)
        (
        some ((1, ga0)))
        (
        (ga0.rows[f.1.toNat]?).bind fun (e : registry_row) =>
        let row := ga0.rows.set f.1.toNat (registry_row.mk (api_Backend.mk e.Backend.ID weight e.Backend.State e.Backend.Addr) e.drains e.health)
        some ((0, registry_Registry.mk ga0.rule row ga0.last (wI .i64 (ga0.version + 1)))))))
def rx29 (x : Int × registry_Registry) : SRes := ⟨.int .i64 x.1, [(vT cregistry_row x.2.rows)], [some [.int .i64 x.2.rule.Rise, .int .i64 x.2.rule.Fall, .slice (some ⟨0, 0, none⟩) x.2.rows.length 9, .int .i64 x.2.last, .int .i64 x.2.version], none]⟩
def r29 (g : registry_Registry → Int → Int → Option (Int × registry_Registry)) : Dec := dTr 2 (udregistry_Registry 0) fun (y0 : registry_Registry) => dV (asI .i64) fun (y1 : Int) => dV (asI .i64) fun (y2 : Int) => dEnd (ofG (g y0 y1 y2) rx29)
theorem r29_c {g : registry_Registry → Int → Int → Option (Int × registry_Registry)} {y0 : registry_Registry} {y1 : Int} {y2 : Int} {x : Int × registry_Registry} (hx : g y0 y1 y2 = some x) : r29 g [.pointer (some ⟨0, 0, none⟩), .int .i64 y1, .int .i64 y2] [some [.int .i64 y0.rule.Rise, .int .i64 y0.rule.Fall, .slice (some ⟨1, 0, none⟩) y0.rows.length 9, .int .i64 y0.last, .int .i64 y0.version], some (vT cregistry_row y0.rows)] = some (rx29 x) := (dTr_eq rfl rfl (udregistry_Registry_c 0 _)).trans ((dV_eq (asI_c _)).trans ((dV_eq (asI_c _)).trans (ofG_eq hx)))
def s29 (g : registry_Registry → Int → Int → Option (Int × registry_Registry)) : Summ := ⟨[.tr [⟨none, 0, 0, 1, none⟩, ⟨some 0, 2, 0, 2, some 9⟩], .v, .v], r29 g⟩
theorem r29_eq {g : registry_Registry → Int → Int → Option (Int × registry_Registry)} {y0 : registry_Registry} {y1 : Int} {y2 : Int} {x : Int × registry_Registry} (hx : g y0 y1 y2 = some x) : (s29 g).run [.pointer (some ⟨0, 0, none⟩), .int .i64 y1, .int .i64 y2] [some [.int .i64 y0.rule.Rise, .int .i64 y0.rule.Fall, .slice (some ⟨1, 0, none⟩) y0.rows.length 9, .int .i64 y0.last, .int .i64 y0.version], some (vT cregistry_row y0.rows)] = some (rx29 x) := r29_c hx
abbrev sums29 (registry_Registry_find : registry_Registry → Int → Option (Int × Bool)) (registry_Registry_find_nil : Int → Option (Int × Bool)) (registry_Registry_given : registry_Registry → Option Bool) (registry_Registry_given_nil : Option Bool) (registry_weighs : Int → Option Bool) : List (Nat × Summ) := [(71, s71 registry_Registry_find registry_Registry_find_nil), (70, s70 registry_Registry_given registry_Registry_given_nil), (81, s81 registry_weighs)]
theorem leads29 (registry_Registry_find : registry_Registry → Int → Option (Int × Bool)) (registry_Registry_find_nil : Int → Option (Int × Bool)) (registry_Registry_given : registry_Registry → Option Bool) (registry_Registry_given_nil : Option Bool) (registry_weighs : Int → Option Bool) (hS : SumsOK Try.prog (aget (sums29 registry_Registry_find registry_Registry_find_nil registry_Registry_given registry_Registry_given_nil registry_weighs))) (ga0 : registry_Registry) (ida1 : Int) (weight : Int) (res : Int × registry_Registry) (h : registry_Registry_WeightF registry_Registry_find registry_Registry_find_nil registry_Registry_given registry_Registry_given_nil registry_weighs ga0 ida1 weight = some res) :
    Leads Try.prog 29 2 ⟨⟨29, 11, [(0, .pointer (some ⟨0, 0, none⟩)), (1, .int .i64 ida1), (2, .int .i64 weight)], [.code k29_3], [], false, none⟩, [], [(0, .cells [.int .i64 ga0.rule.Rise, .int .i64 ga0.rule.Fall, .slice (some ⟨1, 0, none⟩) ga0.rows.length 9, .int .i64 ga0.last, .int .i64 ga0.version]), (1, .row true (vT cregistry_row ga0.rows))], 2⟩ (fun v H _ => Res 2 (rx29 res) v H) := by
  unfold registry_Registry_WeightF at h
  refine ev_ok tab_ok hS true 3000 ?_
  conv => whnf
  replace h := obind.elim h; obtain ⟨xg, hy, h⟩ := h
  refine sumK.introF [] (sumRun_of (aqs := [.pointer (some ⟨0, 0, none⟩)]) (ws := [.blk 0 false, .blk 1 false]) (n := 0) (m := 0) (t' := 3) (ra_cons (ra_tr rfl rfl (vp_at rfl rfl rfl rfl (vp_at rfl rfl (rn_T cregistry_row_flat) rfl vp_nil)) rfl) rfl ra_nil) rfl (by rfl) (r70_eq hy) rfl rfl rfl rfl (wb_skip rfl (wb_skip rfl wb_nil)) an_nil rfl) ?_
  conv => whnf
  refine br.h h ?_ ?_ ?_
  · rfl
  · clear h; intro hb h; conv => whnf
    all_goals (cases h)
    all_goals exact Res.of [1] rfl (nw_s (rn_T cregistry_row_flat) (hs_row rfl) nw_0) (by decide) (js_r rfl js_0) (wr_s (rfl) (hs_cells rfl) (wr_n wr_0))
  clear h; intro hb h; conv => whnf
  replace h := obind.elim h; obtain ⟨f, hy, h⟩ := h
  refine sumK.introF [] (sumRun_of (aqs := [.pointer (some ⟨0, 0, none⟩), .int .i64 ida1]) (ws := [.blk 0 false, .blk 1 false]) (n := 0) (m := 0) (t' := 3) (ra_cons (ra_tr rfl rfl (vp_at rfl rfl rfl rfl (vp_at rfl rfl (rn_T cregistry_row_flat) rfl vp_nil)) rfl) rfl (ra_cons rfl rfl ra_nil)) rfl (by rfl) (r71_eq hy) rfl rfl rfl rfl (wb_skip rfl (wb_skip rfl wb_nil)) an_nil rfl) ?_
  conv => whnf
  refine br.h h ?_ ?_ ?_
  · rfl
  · clear h; intro hb h; conv => whnf
    all_goals (cases h)
    all_goals exact Res.of [1] rfl (nw_s (rn_T cregistry_row_flat) (hs_row rfl) nw_0) (by decide) (js_r rfl js_0) (wr_s (rfl) (hs_cells rfl) (wr_n wr_0))
  clear h; intro hb h; conv => whnf
  replace h := oreq.elim h; obtain ⟨hb, h⟩ := h
  first | (refine req.intro hb ?_; conv => whnf) | skip
  replace h := obind.elim h; obtain ⟨w, hy, h⟩ := h
  refine sumK.q rfl rfl (r81_eq hy) rfl rfl rfl ?_
  conv => whnf
  refine br.h h ?_ ?_ ?_
  · rfl
  · clear h; intro hb h; conv => whnf
    all_goals (cases h)
    all_goals exact Res.of [1] rfl (nw_s (rn_T cregistry_row_flat) (hs_row rfl) nw_0) (by decide) (js_r rfl js_0) (wr_s (rfl) (hs_cells rfl) (wr_n wr_0))
  clear h; intro hb h; conv => whnf
  replace h := obind.elim h; obtain ⟨e, hy, h⟩ := h
  refine st_T (x' := registry_row.mk (api_Backend.mk e.Backend.ID weight e.Backend.State e.Backend.Addr) e.drains e.health) (j := 1) cregistry_row_len hy (by first | omega | exact Nat.zero_add _ | exact congrArg (· + _) (Nat.zero_add _)) (by decide) ⟨rfl, rfl⟩ rfl ?_
  conv => whnf
  let row : List registry_row := ga0.rows.set f.1.toNat (registry_row.mk (api_Backend.mk e.Backend.ID weight e.Backend.State e.Backend.Addr) e.drains e.health)
  try rw [show ga0.rows.length = row.length from (List.length_set ..).symm]
  conv => whnf
  all_goals (cases h)
  all_goals exact Res.of [1] rfl (nw_s (rn_T cregistry_row_flat) (hs_row rfl) nw_0) (by decide) (js_r rfl js_0) (wr_s (rfl) (hs_cells rfl) (wr_n wr_0))
theorem ok29 (registry_Registry_find : registry_Registry → Int → Option (Int × Bool)) (registry_Registry_find_nil : Int → Option (Int × Bool)) (registry_Registry_given : registry_Registry → Option Bool) (registry_Registry_given_nil : Option Bool) (registry_weighs : Int → Option Bool) (hS : SumsOK Try.prog (aget (sums29 registry_Registry_find registry_Registry_find_nil registry_Registry_given registry_Registry_given_nil registry_weighs))) : SumOK Try.prog 29 (s29 (registry_Registry_WeightF registry_Registry_find registry_Registry_find_nil registry_Registry_given registry_Registry_given_nil registry_weighs)) := by
  refine SumOK.of_leads tab_ok (fun ar os r ha hr => ?_) ⟨Try.f29, rfl, by decide, rfl⟩
  replace hr : r29 (registry_Registry_WeightF registry_Registry_find registry_Registry_find_nil registry_Registry_given registry_Registry_given_nil registry_weighs) ar (conts os) = some r := hr
  unfold r29 at hr
  generalize hc : conts os = C at hr
  have hq := dTr.elim hr; clear hr; obtain ⟨v0, l1, c0, C, y0, rfl, rfl, e0, hr⟩ := hq; obtain ⟨rfl, rfl⟩ := udregistry_Registry_eq e0; simp only [List.nil_append, List.cons_append] at hc
  replace hr := dV.elim hr; obtain ⟨v1, l2, y1, rfl, e1, hr⟩ := hr; obtain rfl := asI_eq _ _ _ e1
  replace hr := dV.elim hr; obtain ⟨v2, l3, y2, rfl, e2, hr⟩ := hr; obtain rfl := asI_eq _ _ _ e2
  replace hr := dFin hr; obtain ⟨rfl, rfl, x, h, rfl⟩ := hr
  obtain ⟨os, rfl, ha, hc⟩ := kinds_some ha hc
  obtain ⟨os, rfl, ha, hc⟩ := kinds_some ha hc
  obtain rfl := kinds_nil hc
  exact ⟨_, rfl, leads29 registry_Registry_find registry_Registry_find_nil registry_Registry_given registry_Registry_given_nil registry_weighs hS _ _ _ x h⟩
def registry_Registry_Weight : registry_Registry → Int → Int → Option (Int × registry_Registry) := registry_Registry_WeightF registry_Registry_find registry_Registry_find_nil registry_Registry_given registry_Registry_given_nil registry_weighs
theorem lift29 : SumOK Try.prog 29 (s29 registry_Registry_Weight) := ok29 registry_Registry_find registry_Registry_find_nil registry_Registry_given registry_Registry_given_nil registry_weighs (SumsOK.of_tab ⟨lift71, lift70, lift81, trivial⟩)
def health_NeedF (health_Right : health_Rule → Option Bool) (health_within : Int → Int → Int → Option Bool) (ra0 : health_Rule) (s : health_State) : Option Int :=
  (health_Right ra0).bind fun xr =>
  cond (!xr)
    (
    some (0))
    (
    (health_within s.Run 0 1048576).bind fun w =>
    cond (!w)
      (
      some (0))
      (
      cond (s.Up)
        (
        let t := if (wI .i64 (ra0.Fall - s.Run)) > 1 then wI .i64 (ra0.Fall - s.Run) else 1
        some (t))
        (
        let t1 := if (wI .i64 (ra0.Rise - s.Run)) > 1 then wI .i64 (ra0.Rise - s.Run) else 1
        some (t1))))
def rx128 (x : Int) : SRes := ⟨.int .i64 x, [], []⟩
def r128 (g : health_Rule → health_State → Option Int) : Dec := dV uvhealth_Rule fun (y0 : health_Rule) => dV uvhealth_State fun (y1 : health_State) => dEnd (ofG (g y0 y1) rx128)
theorem r128_c {g : health_Rule → health_State → Option Int} {y0 : health_Rule} {y1 : health_State} {x : Int} (hx : g y0 y1 = some x) : r128 g [.agg ⟨[.int .i64 y0.Rise, .int .i64 y0.Fall]⟩, .agg ⟨[.bool y1.Up, .int .i64 y1.Run]⟩] [] = some (rx128 x) := (dV_eq (uvhealth_Rule_c _)).trans ((dV_eq (uvhealth_State_c _)).trans (ofG_eq hx))
def s128 (g : health_Rule → health_State → Option Int) : Summ := ⟨[.v, .v], r128 g⟩
theorem r128_eq {g : health_Rule → health_State → Option Int} {y0 : health_Rule} {y1 : health_State} {x : Int} (hx : g y0 y1 = some x) : (s128 g).run [.agg ⟨[.int .i64 y0.Rise, .int .i64 y0.Fall]⟩, .agg ⟨[.bool y1.Up, .int .i64 y1.Run]⟩] [] = some (rx128 x) := r128_c hx
abbrev sums128 (health_Right : health_Rule → Option Bool) (health_within : Int → Int → Int → Option Bool) : List (Nat × Summ) := [(69, s69 health_Right), (121, s121 health_within)]
theorem leads128 (health_Right : health_Rule → Option Bool) (health_within : Int → Int → Int → Option Bool) (hS : SumsOK Try.prog (aget (sums128 health_Right health_within))) (ra0 : health_Rule) (s : health_State) (res : Int) (h : health_NeedF health_Right health_within ra0 s = some res) :
    Leads Try.prog 128 0 ⟨⟨128, 30, [(0, .agg ⟨[.int .i64 ra0.Rise, .int .i64 ra0.Fall]⟩), (1, .agg ⟨[.bool s.Up, .int .i64 s.Run]⟩)], [.code k128_15], [], false, none⟩, [], [], 0⟩ (fun v H _ => Res 0 (rx128 res) v H) := by
  unfold health_NeedF at h
  refine ev_ok tab_ok hS true 3000 ?_
  conv => whnf
  replace h := obind.elim h; obtain ⟨xr, hy, h⟩ := h
  refine sumK.q rfl rfl (r69_eq hy) rfl rfl rfl ?_
  conv => whnf
  refine br.h h ?_ ?_ ?_
  · rfl
  · clear h; intro hb h; conv => whnf
    all_goals (cases h; exact Res.z rfl rfl rfl)
  clear h; intro hb h; conv => whnf
  replace h := obind.elim h; obtain ⟨w, hy, h⟩ := h
  refine sumK.q rfl rfl (r121_eq hy) rfl rfl rfl ?_
  conv => whnf
  refine br.h h ?_ ?_ ?_
  · rfl
  · clear h; intro hb h; conv => whnf
    all_goals (cases h; exact Res.z rfl rfl rfl)
  clear h; intro hb h; conv => whnf
  refine br.h h ?_ ?_ ?_
  · rfl
  · clear h; intro hb h; conv => whnf
    let t : Int := if (wI .i64 (ra0.Fall - s.Run)) > 1 then wI .i64 (ra0.Fall - s.Run) else 1
    all_goals (cases h; exact Res.z rfl rfl rfl)
  clear h; intro hb h; conv => whnf
  let t1 : Int := if (wI .i64 (ra0.Rise - s.Run)) > 1 then wI .i64 (ra0.Rise - s.Run) else 1
  all_goals (cases h; exact Res.z rfl rfl rfl)
theorem ok128 (health_Right : health_Rule → Option Bool) (health_within : Int → Int → Int → Option Bool) (hS : SumsOK Try.prog (aget (sums128 health_Right health_within))) : SumOK Try.prog 128 (s128 (health_NeedF health_Right health_within)) := by
  refine SumOK.of_leads tab_ok (fun ar os r ha hr => ?_) ⟨Try.f128, rfl, by decide, rfl⟩
  replace hr : r128 (health_NeedF health_Right health_within) ar (conts os) = some r := hr
  unfold r128 at hr
  generalize hc : conts os = C at hr
  replace hr := dV.elim hr; obtain ⟨v0, l1, y0, rfl, e0, hr⟩ := hr; obtain rfl := uvhealth_Rule_eq _ _ e0
  replace hr := dV.elim hr; obtain ⟨v1, l2, y1, rfl, e1, hr⟩ := hr; obtain rfl := uvhealth_State_eq _ _ e1
  replace hr := dFin hr; obtain ⟨rfl, rfl, x, h, rfl⟩ := hr
  obtain rfl := kinds_nil hc
  exact ⟨_, rfl, leads128 health_Right health_within hS _ _ x h⟩
def health_Need : health_Rule → health_State → Option Int := health_NeedF health_Right health_within
theorem lift128 : SumOK Try.prog 128 (s128 health_Need) := ok128 health_Right health_within (SumsOK.of_tab ⟨lift69, lift121, trivial⟩)
def health_PutF (health_Need : health_Rule → health_State → Option Int) (ra0 : health_Rule) (s : health_State) (good : Bool) : Option (health_State × Bool) :=
  (health_Need ra0 s).bind fun n =>
  cond (n == 0)
    (
    some ((s, false)))
    (
    cond (n == 1)
      (
      some ((health_State.mk good 0, !(good == s.Up))))
      (
      cond (good == s.Up)
        (
        some ((health_State.mk s.Up 0, false)))
        (
        some ((health_State.mk s.Up (wI .i64 (s.Run + 1)), false)))))
def rx90 (x : health_State × Bool) : SRes := ⟨.tuple ⟨[.agg ⟨[.bool x.1.Up, .int .i64 x.1.Run]⟩, .bool x.2]⟩, [], []⟩
def r90 (g : health_Rule → health_State → Bool → Option (health_State × Bool)) : Dec := dV uvhealth_Rule fun (y0 : health_Rule) => dV uvhealth_State fun (y1 : health_State) => dV asB fun (y2 : Bool) => dEnd (ofG (g y0 y1 y2) rx90)
theorem r90_c {g : health_Rule → health_State → Bool → Option (health_State × Bool)} {y0 : health_Rule} {y1 : health_State} {y2 : Bool} {x : health_State × Bool} (hx : g y0 y1 y2 = some x) : r90 g [.agg ⟨[.int .i64 y0.Rise, .int .i64 y0.Fall]⟩, .agg ⟨[.bool y1.Up, .int .i64 y1.Run]⟩, .bool y2] [] = some (rx90 x) := (dV_eq (uvhealth_Rule_c _)).trans ((dV_eq (uvhealth_State_c _)).trans ((dV_eq (asB_c)).trans (ofG_eq hx)))
def s90 (g : health_Rule → health_State → Bool → Option (health_State × Bool)) : Summ := ⟨[.v, .v, .v], r90 g⟩
theorem r90_eq {g : health_Rule → health_State → Bool → Option (health_State × Bool)} {y0 : health_Rule} {y1 : health_State} {y2 : Bool} {x : health_State × Bool} (hx : g y0 y1 y2 = some x) : (s90 g).run [.agg ⟨[.int .i64 y0.Rise, .int .i64 y0.Fall]⟩, .agg ⟨[.bool y1.Up, .int .i64 y1.Run]⟩, .bool y2] [] = some (rx90 x) := r90_c hx
abbrev sums90 (health_Need : health_Rule → health_State → Option Int) : List (Nat × Summ) := [(128, s128 health_Need)]
theorem leads90 (health_Need : health_Rule → health_State → Option Int) (hS : SumsOK Try.prog (aget (sums90 health_Need))) (ra0 : health_Rule) (s : health_State) (good : Bool) (res : health_State × Bool) (h : health_PutF health_Need ra0 s good = some res) :
    Leads Try.prog 90 0 ⟨⟨90, 32, [(0, .agg ⟨[.int .i64 ra0.Rise, .int .i64 ra0.Fall]⟩), (1, .agg ⟨[.bool s.Up, .int .i64 s.Run]⟩), (2, .bool good)], [.code k90_23], [], false, none⟩, [], [], 0⟩ (fun v H _ => Res 0 (rx90 res) v H) := by
  unfold health_PutF at h
  refine ev_ok tab_ok hS true 3000 ?_
  conv => whnf
  replace h := obind.elim h; obtain ⟨n, hy, h⟩ := h
  refine sumK.q rfl rfl (r128_eq hy) rfl rfl rfl ?_
  conv => whnf
  refine br.h h ?_ ?_ ?_
  · rfl
  · clear h; intro hb h; conv => whnf
    all_goals (cases h; exact Res.z rfl rfl rfl)
  clear h; intro hb h; conv => whnf
  refine br.h h ?_ ?_ ?_
  · rfl
  · clear h; intro hb h; conv => whnf
    all_goals (cases h; exact Res.z rfl rfl rfl)
  clear h; intro hb h; conv => whnf
  refine br.h h ?_ ?_ ?_
  · rfl
  · clear h; intro hb h; conv => whnf
    all_goals (cases h; exact Res.z rfl rfl rfl)
  clear h; intro hb h; conv => whnf
  all_goals (cases h; exact Res.z rfl rfl rfl)
theorem ok90 (health_Need : health_Rule → health_State → Option Int) (hS : SumsOK Try.prog (aget (sums90 health_Need))) : SumOK Try.prog 90 (s90 (health_PutF health_Need)) := by
  refine SumOK.of_leads tab_ok (fun ar os r ha hr => ?_) ⟨Try.f90, rfl, by decide, rfl⟩
  replace hr : r90 (health_PutF health_Need) ar (conts os) = some r := hr
  unfold r90 at hr
  generalize hc : conts os = C at hr
  replace hr := dV.elim hr; obtain ⟨v0, l1, y0, rfl, e0, hr⟩ := hr; obtain rfl := uvhealth_Rule_eq _ _ e0
  replace hr := dV.elim hr; obtain ⟨v1, l2, y1, rfl, e1, hr⟩ := hr; obtain rfl := uvhealth_State_eq _ _ e1
  replace hr := dV.elim hr; obtain ⟨v2, l3, y2, rfl, e2, hr⟩ := hr; obtain rfl := asB_eq _ _ e2
  replace hr := dFin hr; obtain ⟨rfl, rfl, x, h, rfl⟩ := hr
  obtain rfl := kinds_nil hc
  exact ⟨_, rfl, leads90 health_Need hS _ _ _ x h⟩
def health_Put : health_Rule → health_State → Bool → Option (health_State × Bool) := health_PutF health_Need
theorem lift90 : SumOK Try.prog 90 (s90 health_Put) := ok90 health_Need (SumsOK.of_tab ⟨lift128, trivial⟩)
def registry_Registry_ProbeF (health_Put : health_Rule → health_State → Bool → Option (health_State × Bool)) (registry_Registry_find : registry_Registry → Int → Option (Int × Bool)) (registry_Registry_find_nil : Int → Option (Int × Bool)) (registry_Registry_given : registry_Registry → Option Bool) (registry_Registry_given_nil : Option Bool) (ga0 : registry_Registry) (ida1 : Int) (good : Bool) : Option (Bool × Int × registry_Registry) :=
  (registry_Registry_given ga0).bind fun xg =>
  cond (!xg)
    (
    some ((false, 1, ga0)))
    (
    (registry_Registry_find ga0 ida1).bind fun f =>
    cond (!f.2)
      (
      some ((false, 13, ga0)))
      (
      oreq (decide ((0 : Int) ≤ f.1 ∧ f.1 < (ga0.rows.length : Int))) <|
      (ga0.rows[f.1.toNat]?).bind fun (e : registry_row) =>
      (health_Put ga0.rule e.health good).bind fun p =>
      let row := ga0.rows.set f.1.toNat (registry_row.mk e.Backend e.drains p.1)
      cond (!p.2)
        (
        some ((p.2, 0, registry_Registry.mk ga0.rule row ga0.last ga0.version)))
        (
        some ((p.2, 0, registry_Registry.mk ga0.rule row ga0.last (wI .i64 (ga0.version + 1)))))))
def rx30 (x : Bool × Int × registry_Registry) : SRes := ⟨.tuple ⟨[.bool x.1, .int .i64 x.2.1]⟩, [(vT cregistry_row x.2.2.rows)], [some [.int .i64 x.2.2.rule.Rise, .int .i64 x.2.2.rule.Fall, .slice (some ⟨0, 0, none⟩) x.2.2.rows.length 9, .int .i64 x.2.2.last, .int .i64 x.2.2.version], none]⟩
def r30 (g : registry_Registry → Int → Bool → Option (Bool × Int × registry_Registry)) : Dec := dTr 2 (udregistry_Registry 0) fun (y0 : registry_Registry) => dV (asI .i64) fun (y1 : Int) => dV asB fun (y2 : Bool) => dEnd (ofG (g y0 y1 y2) rx30)
theorem r30_c {g : registry_Registry → Int → Bool → Option (Bool × Int × registry_Registry)} {y0 : registry_Registry} {y1 : Int} {y2 : Bool} {x : Bool × Int × registry_Registry} (hx : g y0 y1 y2 = some x) : r30 g [.pointer (some ⟨0, 0, none⟩), .int .i64 y1, .bool y2] [some [.int .i64 y0.rule.Rise, .int .i64 y0.rule.Fall, .slice (some ⟨1, 0, none⟩) y0.rows.length 9, .int .i64 y0.last, .int .i64 y0.version], some (vT cregistry_row y0.rows)] = some (rx30 x) := (dTr_eq rfl rfl (udregistry_Registry_c 0 _)).trans ((dV_eq (asI_c _)).trans ((dV_eq (asB_c)).trans (ofG_eq hx)))
def s30 (g : registry_Registry → Int → Bool → Option (Bool × Int × registry_Registry)) : Summ := ⟨[.tr [⟨none, 0, 0, 1, none⟩, ⟨some 0, 2, 0, 2, some 9⟩], .v, .v], r30 g⟩
theorem r30_eq {g : registry_Registry → Int → Bool → Option (Bool × Int × registry_Registry)} {y0 : registry_Registry} {y1 : Int} {y2 : Bool} {x : Bool × Int × registry_Registry} (hx : g y0 y1 y2 = some x) : (s30 g).run [.pointer (some ⟨0, 0, none⟩), .int .i64 y1, .bool y2] [some [.int .i64 y0.rule.Rise, .int .i64 y0.rule.Fall, .slice (some ⟨1, 0, none⟩) y0.rows.length 9, .int .i64 y0.last, .int .i64 y0.version], some (vT cregistry_row y0.rows)] = some (rx30 x) := r30_c hx
abbrev sums30 (health_Put : health_Rule → health_State → Bool → Option (health_State × Bool)) (registry_Registry_find : registry_Registry → Int → Option (Int × Bool)) (registry_Registry_find_nil : Int → Option (Int × Bool)) (registry_Registry_given : registry_Registry → Option Bool) (registry_Registry_given_nil : Option Bool) : List (Nat × Summ) := [(90, s90 health_Put), (71, s71 registry_Registry_find registry_Registry_find_nil), (70, s70 registry_Registry_given registry_Registry_given_nil)]
theorem leads30 (health_Put : health_Rule → health_State → Bool → Option (health_State × Bool)) (registry_Registry_find : registry_Registry → Int → Option (Int × Bool)) (registry_Registry_find_nil : Int → Option (Int × Bool)) (registry_Registry_given : registry_Registry → Option Bool) (registry_Registry_given_nil : Option Bool) (hS : SumsOK Try.prog (aget (sums30 health_Put registry_Registry_find registry_Registry_find_nil registry_Registry_given registry_Registry_given_nil))) (ga0 : registry_Registry) (ida1 : Int) (good : Bool) (res : Bool × Int × registry_Registry) (h : registry_Registry_ProbeF health_Put registry_Registry_find registry_Registry_find_nil registry_Registry_given registry_Registry_given_nil ga0 ida1 good = some res) :
    Leads Try.prog 30 2 ⟨⟨30, 18, [(0, .pointer (some ⟨0, 0, none⟩)), (1, .int .i64 ida1), (2, .bool good)], [.code k30_12], [], false, none⟩, [], [(0, .cells [.int .i64 ga0.rule.Rise, .int .i64 ga0.rule.Fall, .slice (some ⟨1, 0, none⟩) ga0.rows.length 9, .int .i64 ga0.last, .int .i64 ga0.version]), (1, .row true (vT cregistry_row ga0.rows))], 2⟩ (fun v H _ => Res 2 (rx30 res) v H) := by
  unfold registry_Registry_ProbeF at h
  refine ev_ok tab_ok hS true 3000 ?_
  conv => whnf
  replace h := obind.elim h; obtain ⟨xg, hy, h⟩ := h
  refine sumK.introF [] (sumRun_of (aqs := [.pointer (some ⟨0, 0, none⟩)]) (ws := [.blk 0 false, .blk 1 false]) (n := 0) (m := 0) (t' := 5) (ra_cons (ra_tr rfl rfl (vp_at rfl rfl rfl rfl (vp_at rfl rfl (rn_T cregistry_row_flat) rfl vp_nil)) rfl) rfl ra_nil) rfl (by rfl) (r70_eq hy) rfl rfl rfl rfl (wb_skip rfl (wb_skip rfl wb_nil)) an_nil rfl) ?_
  conv => whnf
  refine br.h h ?_ ?_ ?_
  · rfl
  · clear h; intro hb h; conv => whnf
    all_goals (cases h)
    all_goals exact Res.of [1] rfl (nw_s (rn_T cregistry_row_flat) (hs_row rfl) nw_0) (by decide) (js_r rfl js_0) (wr_s (rfl) (hs_cells rfl) (wr_n wr_0))
  clear h; intro hb h; conv => whnf
  replace h := obind.elim h; obtain ⟨f, hy, h⟩ := h
  refine sumK.introF [] (sumRun_of (aqs := [.pointer (some ⟨0, 0, none⟩), .int .i64 ida1]) (ws := [.blk 0 false, .blk 1 false]) (n := 0) (m := 0) (t' := 5) (ra_cons (ra_tr rfl rfl (vp_at rfl rfl rfl rfl (vp_at rfl rfl (rn_T cregistry_row_flat) rfl vp_nil)) rfl) rfl (ra_cons rfl rfl ra_nil)) rfl (by rfl) (r71_eq hy) rfl rfl rfl rfl (wb_skip rfl (wb_skip rfl wb_nil)) an_nil rfl) ?_
  conv => whnf
  refine br.h h ?_ ?_ ?_
  · rfl
  · clear h; intro hb h; conv => whnf
    all_goals (cases h)
    all_goals exact Res.of [1] rfl (nw_s (rn_T cregistry_row_flat) (hs_row rfl) nw_0) (by decide) (js_r rfl js_0) (wr_s (rfl) (hs_cells rfl) (wr_n wr_0))
  clear h; intro hb h; conv => whnf
  replace h := oreq.elim h; obtain ⟨hb, h⟩ := h
  first | (refine req.intro hb ?_; conv => whnf) | skip
  replace h := obind.elim h; obtain ⟨e, hy, h⟩ := h
  refine ld_TP (j := 7) cregistry_row_len hy (by first | omega | exact Nat.zero_add _ | exact congrArg (· + _) (Nat.zero_add _)) (by decide) ?_
  conv => whnf
  replace h := obind.elim h; obtain ⟨p, hy, h⟩ := h
  refine sumK.q rfl rfl (r90_eq hy) rfl rfl rfl ?_
  conv => whnf
  refine st_TP (i := f.1.toNat) (x := e) (x' := registry_row.mk e.Backend e.drains p.1) (j := 7) cregistry_row_len (by assumption) (by first | omega | exact Nat.zero_add _ | exact congrArg (· + _) (Nat.zero_add _)) (by decide) rfl rfl rfl ?_
  conv => whnf
  let row : List registry_row := ga0.rows.set f.1.toNat (registry_row.mk e.Backend e.drains p.1)
  try rw [show ga0.rows.length = row.length from (List.length_set ..).symm]
  conv => whnf
  refine br.h h ?_ ?_ ?_
  · rfl
  · clear h; intro hb h; conv => whnf
    all_goals (cases h)
    all_goals exact Res.of [1] rfl (nw_s (rn_T cregistry_row_flat) (hs_row rfl) nw_0) (by decide) (js_r rfl js_0) (wr_s (rfl) (hs_cells rfl) (wr_n wr_0))
  clear h; intro hb h; conv => whnf
  all_goals (cases h)
  all_goals exact Res.of [1] rfl (nw_s (rn_T cregistry_row_flat) (hs_row rfl) nw_0) (by decide) (js_r rfl js_0) (wr_s (rfl) (hs_cells rfl) (wr_n wr_0))
theorem ok30 (health_Put : health_Rule → health_State → Bool → Option (health_State × Bool)) (registry_Registry_find : registry_Registry → Int → Option (Int × Bool)) (registry_Registry_find_nil : Int → Option (Int × Bool)) (registry_Registry_given : registry_Registry → Option Bool) (registry_Registry_given_nil : Option Bool) (hS : SumsOK Try.prog (aget (sums30 health_Put registry_Registry_find registry_Registry_find_nil registry_Registry_given registry_Registry_given_nil))) : SumOK Try.prog 30 (s30 (registry_Registry_ProbeF health_Put registry_Registry_find registry_Registry_find_nil registry_Registry_given registry_Registry_given_nil)) := by
  refine SumOK.of_leads tab_ok (fun ar os r ha hr => ?_) ⟨Try.f30, rfl, by decide, rfl⟩
  replace hr : r30 (registry_Registry_ProbeF health_Put registry_Registry_find registry_Registry_find_nil registry_Registry_given registry_Registry_given_nil) ar (conts os) = some r := hr
  unfold r30 at hr
  generalize hc : conts os = C at hr
  have hq := dTr.elim hr; clear hr; obtain ⟨v0, l1, c0, C, y0, rfl, rfl, e0, hr⟩ := hq; obtain ⟨rfl, rfl⟩ := udregistry_Registry_eq e0; simp only [List.nil_append, List.cons_append] at hc
  replace hr := dV.elim hr; obtain ⟨v1, l2, y1, rfl, e1, hr⟩ := hr; obtain rfl := asI_eq _ _ _ e1
  replace hr := dV.elim hr; obtain ⟨v2, l3, y2, rfl, e2, hr⟩ := hr; obtain rfl := asB_eq _ _ e2
  replace hr := dFin hr; obtain ⟨rfl, rfl, x, h, rfl⟩ := hr
  obtain ⟨os, rfl, ha, hc⟩ := kinds_some ha hc
  obtain ⟨os, rfl, ha, hc⟩ := kinds_some ha hc
  obtain rfl := kinds_nil hc
  exact ⟨_, rfl, leads30 health_Put registry_Registry_find registry_Registry_find_nil registry_Registry_given registry_Registry_given_nil hS _ _ _ x h⟩
def registry_Registry_Probe : registry_Registry → Int → Bool → Option (Bool × Int × registry_Registry) := registry_Registry_ProbeF health_Put registry_Registry_find registry_Registry_find_nil registry_Registry_given registry_Registry_given_nil
theorem lift30 : SumOK Try.prog 30 (s30 registry_Registry_Probe) := ok30 health_Put registry_Registry_find registry_Registry_find_nil registry_Registry_given registry_Registry_given_nil (SumsOK.of_tab ⟨lift90, lift71, lift70, trivial⟩)
end Go.Vm.Code
namespace Go.Vm.Code
open Go Go.Vm
def noB : api_Backend := ⟨0, 0, 0, ⟨false, 0, 0⟩⟩
def goneB (id : Int) : api_Backend := ⟨id, 0, 4, ⟨false, 0, 0⟩⟩
def updR (g : registry_Registry) (k : Nat) (r : registry_row) (dv : Int) : registry_Registry := ⟨g.rule, g.rows.set k r, g.last, g.version + dv⟩
def newRow (id w : Int) (a : api_Addr) : registry_row := ⟨⟨id, w, 0, a⟩, false, ⟨true, 0⟩⟩
def putS (r : health_Rule) (s : health_State) (good : Bool) : health_State × Bool :=
  if ruleB r = true ∧ 0 ≤ s.Run ∧ s.Run ≤ 1048576 then
    if good = s.Up then (⟨s.Up, 0⟩, false)
    else if s.Run + 1 ≥ (if s.Up then r.Fall else r.Rise) then (⟨good, 0⟩, true) else (⟨s.Up, s.Run + 1⟩, false)
  else (s, false)
theorem RI.mono {N M : Int} {g : registry_Registry} (h : RI N g) (hm : N ≤ M) : RI M g := { h with ver1 := Int.le_trans h.ver1 hm }
theorem ids_set {rows : List registry_row} {k : Nat} {r q : registry_row} (hk : rows[k]? = some r) (hq : q.Backend.ID = r.Backend.ID) : (rows.set k q).map rid = rows.map rid := by
  apply List.ext_getElem?
  intro i
  rw [List.getElem?_map, List.getElem?_map, List.getElem?_set]
  split
  · rename_i e; subst e
    split
    · rw [hk]; simp [rid, hq]
    · rename_i hl; rw [List.getElem?_eq_none (by omega)]
  · rfl
theorem RI.upd {N : Int} {g : registry_Registry} (h : RI N g) {k : Nat} {r q : registry_row} (hk : g.rows[k]? = some r) (hq : q.Backend.ID = r.Backend.ID) {dv : Int} (h0 : 0 ≤ dv) (h1 : dv ≤ 1) : RI (N + 1) (updR g k q dv) := by
  have e := ids_set hk hq
  have hv0 := h.ver0; have hv1 := h.ver1
  exact { rule := h.rule, len := by simpa [updR] using h.len, last0 := h.last0, last1 := h.last1, ver0 := by show 0 ≤ g.version + dv; omega, ver1 := by show g.version + dv ≤ N + 1; omega,
          ids := by show ∀ i ∈ (g.rows.set k q).map rid, _; rw [e]; exact h.ids, up := by show ((g.rows.set k q).map rid).Pairwise _; rw [e]; exact h.up }
def addG (g : registry_Registry) (w : Int) (a : api_Addr) : Int × Int × registry_Registry :=
  if weighB w = true ∧ adrB a = true then
    if g.rows.length = 64 ∨ g.last = 65535 then (0, 9, g) else (g.last + 1, 0, ⟨g.rule, g.rows ++ [newRow (g.last + 1) w a], g.last + 1, g.version + 1⟩)
  else (0, 1, g)
theorem add_eq {N : Int} {g : registry_Registry} (h : RI N g) (hN : N < 2 ^ 40) (w : Int) (a : api_Addr) : registry_Registry_Add g w a = some (addG g w a) := by
  unfold registry_Registry_Add registry_Registry_AddF addG
  rw [given_eq h, Option.bind_some, weighs_eq, Option.bind_some, aright_eq, Option.bind_some]
  have hl := h.len; have h0 := h.last0; have h1 := h.last1; have v0 := h.ver0; have v1 := h.ver1
  cases hw : weighB w with
  | false => rfl
  | true =>
  cases ha : adrB a with
  | false => rfl
  | true =>
  simp only [Bool.not_true, cond_false, and_self, ↓reduceIte]
  by_cases e1 : g.rows.length = 64
  · rw [show ((g.rows.length : Int) == 64) = true from by rw [beq_iff_eq]; omega, cond_true, if_pos (.inl e1)]
  · rw [show ((g.rows.length : Int) == 64) = false from by rw [beq_eq_false_iff_ne]; omega, cond_false]
    by_cases e2 : g.last = 65535
    · rw [show (g.last == 65535) = true from by rw [beq_iff_eq]; exact e2, cond_true, if_pos (.inr e2)]
    · rw [show (g.last == 65535) = false from by rw [beq_eq_false_iff_ne]; exact e2, cond_false, if_neg (by omega), oreq_p (by omega), wI64 (by omega) (by omega), wI64 (n := g.version + 1) (by omega) (by omega)]; rfl
theorem add_RI {N : Int} {g : registry_Registry} (h : RI N g) (w : Int) (a : api_Addr) : RI (N + 1) (addG g w a).2.2 := by
  unfold addG
  split
  · split
    · exact h.mono (by omega)
    · rename_i hn
      have hl := h.len; have h0 := h.last0; have h1 := h.last1; have v0 := h.ver0; have v1 := h.ver1
      refine { rule := h.rule, len := by simp; omega, last0 := by show 0 ≤ g.last + 1; omega, last1 := by show g.last + 1 ≤ 65535; omega, ver0 := by show 0 ≤ g.version + 1; omega, ver1 := by show g.version + 1 ≤ N + 1; omega, ids := ?_, up := ?_ }
      · intro i hi
        simp only [List.map_append, List.map_cons, List.map_nil, List.mem_append, List.mem_singleton] at hi
        show 1 ≤ i ∧ i ≤ g.last + 1
        rcases hi with hi | hi
        · have := h.ids i hi; omega
        · subst hi; simp only [rid, newRow]; omega
      · simp only [List.map_append, List.map_cons, List.map_nil]
        rw [List.pairwise_append]
        refine ⟨h.up, List.pairwise_singleton .., fun i hi j hj => ?_⟩
        have := h.ids i hi
        simp only [List.mem_singleton] at hj
        subst hj; simp only [rid, newRow]; omega
  · exact h.mono (by omega)
theorem drain_yes {N : Int} {g : registry_Registry} (h : RI N g) (hN : N < 2 ^ 40) {k : Nat} {r : registry_row} (hk : g.rows[k]? = some r) (on : Bool) :
    registry_Registry_Drain g r.Backend.ID on = some (if r.drains = on then (11, g) else (0, updR g k ⟨r.Backend, on, r.health⟩ 1)) := by
  unfold registry_Registry_Drain registry_Registry_DrainF
  have v0 := h.ver0; have v1 := h.ver1
  have hl := (List.getElem?_eq_some_iff.1 hk).1
  rw [given_eq h, Option.bind_some, find_yes h hk, Option.bind_some]
  simp only [Bool.not_true, cond_false]
  rw [oreq_p ⟨by omega, by omega⟩, Int.toNat_natCast, hk, Option.bind_some]
  by_cases e : r.drains = on
  · rw [show (r.drains == on) = true from by simpa using e, cond_true, if_pos e]
  · rw [show (r.drains == on) = false from by simpa using e, cond_false, if_neg e, wI64 (by omega) (by omega)]; rfl
theorem drain_no {N : Int} {g : registry_Registry} (h : RI N g) {id : Int} (hn : ∀ (k : Nat) r, g.rows[k]? = some r → r.Backend.ID ≠ id) (on : Bool) : registry_Registry_Drain g id on = some (13, g) := by
  unfold registry_Registry_Drain registry_Registry_DrainF
  obtain ⟨i, hi⟩ := find_no h hn
  rw [given_eq h, Option.bind_some, hi, Option.bind_some]; rfl
theorem weight_yes {N : Int} {g : registry_Registry} (h : RI N g) (hN : N < 2 ^ 40) {k : Nat} {r : registry_row} (hk : g.rows[k]? = some r) (w : Int) :
    registry_Registry_Weight g r.Backend.ID w = some (if weighB w then (0, updR g k ⟨⟨r.Backend.ID, w, r.Backend.State, r.Backend.Addr⟩, r.drains, r.health⟩ 1) else (1, g)) := by
  unfold registry_Registry_Weight registry_Registry_WeightF
  have v0 := h.ver0; have v1 := h.ver1
  have hl := (List.getElem?_eq_some_iff.1 hk).1
  rw [given_eq h, Option.bind_some, find_yes h hk, Option.bind_some]
  simp only [Bool.not_true, cond_false]
  rw [oreq_p ⟨by omega, by omega⟩, Int.toNat_natCast, hk, weighs_eq, Option.bind_some]
  cases hw : weighB w with
  | false => rfl
  | true => simp only [Bool.not_true, cond_false, Option.bind_some]; rw [wI64 (by omega) (by omega)]; rfl
theorem weight_no {N : Int} {g : registry_Registry} (h : RI N g) {id : Int} (hn : ∀ (k : Nat) r, g.rows[k]? = some r → r.Backend.ID ≠ id) (w : Int) : registry_Registry_Weight g id w = some (13, g) := by
  unfold registry_Registry_Weight registry_Registry_WeightF
  obtain ⟨i, hi⟩ := find_no h hn
  rw [given_eq h, Option.bind_some, hi, Option.bind_some]; rfl
theorem hput_eq (r : health_Rule) (s : health_State) (good : Bool) : health_Put r s good = some (putS r s good) := by
  unfold health_Put health_PutF health_Need health_NeedF putS
  rw [hright_eq, Option.bind_some, within_eq, Option.bind_some]
  cases hr : ruleB r with
  | false => rfl
  | true =>
  simp only [ruleB, decide_eq_true_eq] at hr
  by_cases hs : 0 ≤ s.Run ∧ s.Run ≤ 1048576
  · rw [decide_eq_true hs]
    simp only [Bool.not_true, cond_false, true_and]
    rw [if_pos hs, wI64 (n := r.Fall - s.Run) (by omega) (by omega), wI64 (n := r.Rise - s.Run) (by omega) (by omega), wI64 (n := s.Run + 1) (by omega) (by omega)]
    have key : ∀ must : Int, (do
        let n ← some (if must - s.Run > 1 then must - s.Run else 1)
        cond (n == 0) (some (s, false)) (cond (n == 1) (some (health_State.mk good 0, !(good == s.Up))) (cond (good == s.Up) (some (health_State.mk s.Up 0, false)) (some (health_State.mk s.Up (s.Run + 1), false))))) =
        some (if good = s.Up then ((⟨s.Up, 0⟩ : health_State), false) else if s.Run + 1 ≥ must then (⟨good, 0⟩, true) else (⟨s.Up, s.Run + 1⟩, false)) := by
      intro must
      by_cases hm : must - s.Run > 1
      · rw [if_pos hm]
        simp only [Option.bind_eq_bind, Option.bind_some]
        rw [show (must - s.Run == 0) = false from by rw [beq_eq_false_iff_ne]; omega, show (must - s.Run == 1) = false from by rw [beq_eq_false_iff_ne]; omega, cond_false, cond_false, if_neg (show ¬ s.Run + 1 ≥ must by omega)]
        cases good <;> cases s.Up <;> simp
      · rw [if_neg hm, if_pos (show s.Run + 1 ≥ must by omega)]
        simp only [Option.bind_eq_bind, Option.bind_some]
        cases good <;> cases s.Up <;> simp
    cases hu : s.Up with
    | true => have := key r.Fall; simp only [hu] at this; simpa using this
    | false => have := key r.Rise; simp only [hu] at this; simpa using this
  · rw [decide_eq_false hs]; simp only [Bool.not_true, Bool.not_false, cond_false, cond_true, Option.bind_some, hs, and_false, ↓reduceIte]; rfl
theorem probe_yes {N : Int} {g : registry_Registry} (h : RI N g) (hN : N < 2 ^ 40) {k : Nat} {r : registry_row} (hk : g.rows[k]? = some r) (good : Bool) :
    registry_Registry_Probe g r.Backend.ID good = some ((putS g.rule r.health good).2, 0, updR g k ⟨r.Backend, r.drains, (putS g.rule r.health good).1⟩ (if (putS g.rule r.health good).2 then 1 else 0)) := by
  unfold registry_Registry_Probe registry_Registry_ProbeF
  have v0 := h.ver0; have v1 := h.ver1
  have hl := (List.getElem?_eq_some_iff.1 hk).1
  rw [given_eq h, Option.bind_some, find_yes h hk, Option.bind_some]
  simp only [Bool.not_true, cond_false]
  rw [oreq_p ⟨by omega, by omega⟩, Int.toNat_natCast, hk, Option.bind_some, hput_eq, Option.bind_some]
  cases (putS g.rule r.health good).2 with
  | false => simp only [Bool.not_false, cond_true, updR, Bool.false_eq_true, ↓reduceIte, Int.add_zero]
  | true => simp only [Bool.not_true, cond_false, updR, ↓reduceIte]; rw [wI64 (by omega) (by omega)]
theorem probe_no {N : Int} {g : registry_Registry} (h : RI N g) {id : Int} (hn : ∀ (k : Nat) r, g.rows[k]? = some r → r.Backend.ID ≠ id) (good : Bool) : registry_Registry_Probe g id good = some (false, 13, g) := by
  unfold registry_Registry_Probe registry_Registry_ProbeF
  obtain ⟨i, hi⟩ := find_no h hn
  rw [given_eq h, Option.bind_some, hi, Option.bind_some]; rfl
theorem get_yes {N : Int} {g : registry_Registry} (h : RI N g) {k : Nat} {r : registry_row} (hk : g.rows[k]? = some r) : registry_Registry_Get g r.Backend.ID = some (tld r, true) := by
  unfold registry_Registry_Get registry_Registry_GetF
  have hl := (List.getElem?_eq_some_iff.1 hk).1
  rw [given_eq h, Option.bind_some, find_yes h hk, Option.bind_some]
  simp only [Bool.not_true, cond_false, cond_true]
  rw [oreq_p ⟨by omega, by omega⟩, Int.toNat_natCast, hk, Option.bind_some, told_eq, Option.bind_some]
theorem get_no {N : Int} {g : registry_Registry} (h : RI N g) {id : Int} (hn : ∀ (k : Nat) r, g.rows[k]? = some r → r.Backend.ID ≠ id) : registry_Registry_Get g id = some (if 1 ≤ id ∧ id ≤ g.last then (goneB id, true) else (noB, false)) := by
  unfold registry_Registry_Get registry_Registry_GetF
  obtain ⟨i, hi⟩ := find_no h hn
  rw [given_eq h, Option.bind_some, hi, Option.bind_some]
  simp only [Bool.not_true, cond_false]
  by_cases h1 : id < 1
  · rw [cond_p h1, if_neg (by omega)]; rfl
  · rw [cond_n h1]
    by_cases h2 : id > g.last
    · rw [cond_p h2, if_neg (by omega)]; rfl
    · rw [cond_n h2, if_pos (by omega)]; rfl
theorem list_eq {N : Int} {g : registry_Registry} (h : RI N g) : registry_Registry_List g = some (g.rows.map tld) := by
  unfold registry_Registry_List registry_Registry_ListF
  have hlen := h.len
  rw [given_eq h, Option.bind_some]
  simp only [Bool.not_true, cond_false]
  have := iter_build (fun i => tld (g.rows.getD i ⟨noB, false, ⟨false, 0⟩⟩)) g.rows.length (fun st => registry_Registry_List_s1 registry_row_told g st.1 st.2) (fun o => o) (n := FUEL) ?_ ?_ (by rw [FUEL_eq]; omega)
  · rw [this]
    congr 1
    exact range_map _ _ _ (fun i hi => by rw [List.getD_eq_getElem?_getD, List.getElem?_eq_getElem hi]; rfl)
  · intro i hi out ho
    simp only []
    unfold registry_Registry_List_s1
    rw [cond_p (by omega), oreq_p ⟨by omega, by omega⟩, Int.toNat_natCast, List.getD_eq_getElem?_getD, List.getElem?_eq_getElem hi, Option.bind_some, told_eq, Option.bind_some, oreq_p (by omega), wI64 (by omega) (by omega)]
    rfl
  · intro out ho
    simp only []
    unfold registry_Registry_List_s1
    rw [cond_n (by omega)]
def rstG (g : registry_Registry) : registry_Registry := ⟨g.rule, g.rows.map rst, g.last, g.version + 1⟩
theorem reset_eq {N : Int} {g : registry_Registry} (h : RI N g) (hN : N < 2 ^ 40) : registry_Registry_Reset g = some (rstG g) := by
  unfold registry_Registry_Reset registry_Registry_ResetF
  have hlen := h.len; have v0 := h.ver0; have v1 := h.ver1
  rw [given_eq h, Option.bind_some]
  simp only [Bool.not_true, cond_false]
  refine iter_eq (fun _ => rstG g) (fun (s : Int × Int × List registry_row) => ∃ i : Nat, i ≤ g.rows.length ∧ s = ((g.rows.length : Int), (i : Int), (g.rows.take i).map rst ++ g.rows.drop i)) (fun s => g.rows.length - s.2.1.toNat) ?_ FUEL ((g.rows.length : Int), 0, g.rows) ⟨0, Nat.zero_le _, by simp⟩ (by rw [FUEL_eq]; simp; omega)
  rintro s ⟨i, hi, rfl⟩
  dsimp only
  unfold registry_Registry_Reset_s1
  rcases Nat.lt_or_ge i g.rows.length with hlt | hge
  · right
    have hL : ((g.rows.take i).map rst ++ g.rows.drop i).length = g.rows.length := by simp; omega
    have hlm : min i g.rows.length = i := Nat.min_eq_left (by omega)
    have hget : ((g.rows.take i).map rst ++ g.rows.drop i)[i]? = some g.rows[i] := by
      rw [List.getElem?_append_right (by simp; omega)]
      simp [Nat.min_eq_left (Nat.le_of_lt hlt)]
    rw [cond_p (by omega), oreq_p ⟨by omega, by rw [hL]; omega⟩, Int.toNat_natCast, hget, Option.bind_some, wI64 (by omega) (by omega)]
    refine ⟨_, rfl, ⟨i + 1, hlt, ?_⟩, ?_, by trivial⟩
    · simp only [Prod.mk.injEq, true_and]
      refine ⟨by omega, ?_⟩
      apply List.ext_getElem?
      intro j
      rw [List.getElem?_set, hL]
      by_cases hj : i = j
      · subst hj
        rw [if_pos rfl, if_pos hlt, List.getElem?_append_left (by simp; omega), List.getElem?_map, List.getElem?_take_of_lt (by omega), List.getElem?_eq_getElem hlt]; rfl
      · rw [if_neg hj]
        rcases Nat.lt_or_ge j i with h1 | h1
        · rw [List.getElem?_append_left (by simp; omega), List.getElem?_append_left (by simp; omega), List.getElem?_map, List.getElem?_map, List.getElem?_take_of_lt h1, List.getElem?_take_of_lt (by omega)]
        · rw [List.getElem?_append_right (by simp; omega), List.getElem?_append_right (by simp; omega), List.getElem?_drop, List.getElem?_drop]
          congr 1; simp; omega
    · simp only []; omega
  · left
    have e : i = g.rows.length := by omega
    subst e
    rw [cond_n (by omega), wI64 (by omega) (by omega)]
    simp [rstG]
theorem reset_RI {N : Int} {g : registry_Registry} (h : RI N g) : RI (N + 1) (rstG g) := by
  have e : (g.rows.map rst).map rid = g.rows.map rid := by rw [List.map_map]; rfl
  have v0 := h.ver0; have v1 := h.ver1
  exact { rule := h.rule, len := by simpa [rstG] using h.len, last0 := h.last0, last1 := h.last1, ver0 := by show 0 ≤ g.version + 1; omega, ver1 := by show g.version + 1 ≤ N + 1; omega,
          ids := by show ∀ i ∈ (g.rows.map rst).map rid, _; rw [e]; exact h.ids, up := by show ((g.rows.map rst).map rid).Pairwise _; rw [e]; exact h.up }
def remG (g : registry_Registry) (k : Nat) : registry_Registry := ⟨g.rule, g.rows.eraseIdx k, g.last, g.version + 1⟩
theorem rem_RI {N : Int} {g : registry_Registry} (h : RI N g) (k : Nat) : RI (N + 1) (remG g k) := by
  have hs : ((g.rows.eraseIdx k).map rid).Sublist (g.rows.map rid) := (List.eraseIdx_sublist _ _).map _
  have v0 := h.ver0; have v1 := h.ver1; have hl := h.len
  refine { rule := h.rule, len := ?_, last0 := h.last0, last1 := h.last1, ver0 := by show 0 ≤ g.version + 1; omega, ver1 := by show g.version + 1 ≤ N + 1; omega, ids := fun i hi => h.ids i (hs.subset hi), up := h.up.sublist hs }
  have := (List.eraseIdx_sublist g.rows k).length_le
  show (g.rows.eraseIdx k).length ≤ 64
  omega
theorem rem_inner {N : Int} {g : registry_Registry} (h : RI N g) (hN : N < 2 ^ 40) {k : Nat} {r : registry_row} (hk : g.rows[k]? = some r) :
    iter (fun st => registry_Registry_Remove_s1 g r.Backend.ID st.1 st.2.1 st.2.2) FUEL ((k : Int), wI .i64 ((k : Int) + 1), g.rows) = some (0, remG g k) := by
  have hl := (List.getElem?_eq_some_iff.1 hk).1
  have hlen := h.len; have v0 := h.ver0; have v1 := h.ver1
  rw [wI64 (by omega) (by omega)]
  refine iter_eq (fun _ => (0, remG g k)) (fun (s : Int × Int × List registry_row) => ∃ j : Nat, k < j ∧ j ≤ g.rows.length ∧ s.1 = (j : Int) - 1 ∧ s.2.1 = j ∧ s.2.2.length = g.rows.length ∧ (∀ m, m < j - 1 → s.2.2[m]? = (g.rows.eraseIdx k)[m]?) ∧ ∀ m, j ≤ m → s.2.2[m]? = g.rows[m]?)
    (fun s => g.rows.length - s.2.1.toNat) ?_ FUEL ((k : Int), (k : Int) + 1, g.rows) ⟨k + 1, by omega, by omega, by simp only []; omega, by simp, rfl, fun m hm => ?_, fun m hm => rfl⟩ (by rw [FUEL_eq]; simp only []; omega)
  · rintro ⟨i, xj, s⟩ ⟨j, h1, h2, h3, h4, h5, h6, h7⟩
    simp only at h3 h4 h5 h6 h7
    subst h3; subst h4
    dsimp only
    unfold registry_Registry_Remove_s1
    rcases Nat.lt_or_ge j g.rows.length with hlt | hge
    · right
      have hj : s[j]? = some g.rows[j] := by rw [h7 j (Nat.le_refl _), List.getElem?_eq_getElem hlt]
      have hne : ((g.rows[j]).Backend.ID == r.Backend.ID) = false := by
        rw [beq_eq_false_iff_ne]
        have := h.lt hk (List.getElem?_eq_getElem hlt) h1
        omega
      rw [cond_p (by omega), oreq_p ⟨by omega, by omega⟩, Int.toNat_natCast, hj, Option.bind_some, hne]
      simp only [Bool.not_false, cond_true]
      rw [oreq_p ⟨by omega, by omega⟩, oreq_p (by omega), wI64 (by omega) (by omega), wI64 (by omega) (by omega)]
      refine ⟨_, rfl, ⟨j + 1, by omega, by omega, by simp only []; omega, by simp only []; omega, by simpa using h5, fun m hm => ?_, fun m hm => ?_⟩, by simp only []; omega, by trivial⟩
      · simp only []
        have et : ((j : Int) - 1).toNat = j - 1 := by omega
        rw [et, List.getElem?_set]
        split
        · rename_i e; subst e
          rw [if_pos (by omega), List.getElem?_eraseIdx, if_neg (by omega), show j - 1 + 1 = j by omega, List.getElem?_eq_getElem hlt]
        · exact h6 m (by omega)
      · simp only []
        rw [List.getElem?_set, if_neg (by omega)]
        exact h7 m (by omega)
    · left
      have e : j = g.rows.length := by omega
      have et : ((j : Int) - 1).toNat = j - 1 := by omega
      rw [cond_n (by omega), oreq_p ⟨by omega, by omega⟩, et, oreq_p (by omega), oreq_p ⟨by omega, by omega⟩, wI64 (by omega) (by omega)]
      have : s.take (j - 1) = g.rows.eraseIdx k := by
        apply List.ext_getElem?
        intro m
        rw [List.getElem?_take]
        split
        · rename_i hm; exact h6 m hm
        · rw [List.getElem?_eq_none]
          rw [List.length_eraseIdx, if_pos hl]; omega
      rw [this]; rfl
  · simp only [Nat.add_sub_cancel] at hm
    rw [List.getElem?_eraseIdx, if_pos hm]
theorem remove_yes {N : Int} {g : registry_Registry} (h : RI N g) (hN : N < 2 ^ 40) {k : Nat} {r : registry_row} (hk : g.rows[k]? = some r) : registry_Registry_Remove g r.Backend.ID = some (0, remG g k) := by
  unfold registry_Registry_Remove registry_Registry_RemoveF
  have hl := (List.getElem?_eq_some_iff.1 hk).1
  have hlen := h.len
  rw [given_eq h, Option.bind_some, find_yes h hk, Option.bind_some]
  simp only [Bool.not_true, cond_false]
  rw [oreq_p ⟨by omega, by omega⟩]
  refine iter_eq (fun _ => (0, remG g k)) (fun (s : Int) => 0 ≤ s ∧ s ≤ k) (fun s => ((k : Int) - s).toNat) ?_ FUEL 0 ⟨by omega, by omega⟩ (by rw [FUEL_eq]; omega)
  rintro s ⟨h0, h1⟩
  obtain ⟨i, rfl⟩ := Int.eq_ofNat_of_zero_le h0
  unfold registry_Registry_Remove_s2
  have hi : i < g.rows.length := by omega
  rw [cond_p (by omega), oreq_p ⟨by omega, by omega⟩, Int.toNat_natCast, List.getElem?_eq_getElem hi, Option.bind_some]
  rcases Nat.lt_or_ge i k with hlt | hge
  · right
    have hne : ((g.rows[i]).Backend.ID == r.Backend.ID) = false := by
      rw [beq_eq_false_iff_ne]
      have := h.lt (List.getElem?_eq_getElem hi) hk hlt
      omega
    rw [hne, cond_false, wI64 (by omega) (by omega)]
    exact ⟨_, rfl, ⟨by omega, by omega⟩, by omega, by trivial⟩
  · left
    have e : i = k := by omega
    subst e
    have er : g.rows[i] = r := by rw [List.getElem?_eq_getElem hi] at hk; exact Option.some.inj hk
    rw [er, show (r.Backend.ID == r.Backend.ID) = true from by simp, cond_true, show ((i : Int) == -1) = false from by rw [beq_eq_false_iff_ne]; omega, cond_false, rem_inner h hN hk, Option.bind_some]
theorem remove_no {N : Int} {g : registry_Registry} (h : RI N g) {id : Int} (hn : ∀ (k : Nat) r, g.rows[k]? = some r → r.Backend.ID ≠ id) : registry_Registry_Remove g id = some (13, g) := by
  unfold registry_Registry_Remove registry_Registry_RemoveF
  obtain ⟨i, hi⟩ := find_no h hn
  rw [given_eq h, Option.bind_some, hi, Option.bind_some]; rfl
theorem rem_none {N : Int} {g : registry_Registry} (h : RI N g) {k : Nat} {r : registry_row} (hk : g.rows[k]? = some r) : ∀ (j : Nat) q, (remG g k).rows[j]? = some q → q.Backend.ID ≠ r.Backend.ID := by
  intro j q hq
  simp only [remG, List.getElem?_eraseIdx] at hq
  split at hq
  · have := h.lt hq hk (by omega); omega
  · have := h.lt hk hq (by omega); omega
end Go.Vm.Code
namespace Go.Vm.Code
open Go Go.Vm Go.Proofs
set_option maxRecDepth 100000
set_option maxHeartbeats 4000000
set_option linter.unusedVariables false
def R21_RightF (ra0 : health_Rule) : Option Bool :=
  cond (decide (ra0.Rise ≥ 1))
    (
    cond (decide (ra0.Rise ≤ 100))
      (
      cond (decide (ra0.Fall ≥ 1))
        (
        some (decide (ra0.Fall ≤ 100)))
        (
        some (false)))
      (
      some (false)))
    (
    some (false))
def rx25 (x : Bool) : SRes := ⟨.bool x, [], []⟩
def r25 (g : health_Rule → Option Bool) : Dec := dV uvhealth_Rule fun (y0 : health_Rule) => dEnd (ofG (g y0) rx25)
theorem r25_c {g : health_Rule → Option Bool} {y0 : health_Rule} {x : Bool} (hx : g y0 = some x) : r25 g [.agg ⟨[.int .i64 y0.Rise, .int .i64 y0.Fall]⟩] [] = some (rx25 x) := (dV_eq (uvhealth_Rule_c _)).trans (ofG_eq hx)
def s25 (g : health_Rule → Option Bool) : Summ := ⟨[.v], r25 g⟩
theorem r25_eq {g : health_Rule → Option Bool} {y0 : health_Rule} {x : Bool} (hx : g y0 = some x) : (s25 g).run [.agg ⟨[.int .i64 y0.Rise, .int .i64 y0.Fall]⟩] [] = some (rx25 x) := r25_c hx
abbrev sums25 : List (Nat × Summ) := []
theorem leads25 (hS : SumsOK Try.prog (aget (sums25))) (ra0 : health_Rule) (res : Bool) (h : R21_RightF ra0 = some res) :
    Leads Try.prog 25 0 ⟨⟨25, 21, [(0, .agg ⟨[.int .i64 ra0.Rise, .int .i64 ra0.Fall]⟩)], [.code k25_3], [], false, none⟩, [], [], 0⟩ (fun v H _ => Res 0 (rx25 res) v H) := by
  unfold R21_RightF at h
  refine ev_ok tab_ok hS true 3000 ?_
  conv => whnf
  refine br.h2 h ?_ ?_ ?_
  · rfl
  · clear h; intro hb h; conv => whnf
    all_goals (cases h; exact Res.z rfl rfl rfl)
  clear h; intro hb h; conv => whnf
  refine br.h2 h ?_ ?_ ?_
  · rfl
  · clear h; intro hb h; conv => whnf
    all_goals (cases h; exact Res.z rfl rfl rfl)
  clear h; intro hb h; conv => whnf
  refine br.h h ?_ ?_ ?_
  · rfl
  · clear h; intro hb h; conv => whnf
    all_goals (cases h; exact Res.z rfl rfl rfl)
  clear h; intro hb h; conv => whnf
  all_goals (cases h; exact Res.z rfl rfl rfl)
theorem ok25 (hS : SumsOK Try.prog (aget (sums25))) : SumOK Try.prog 25 (s25 (R21_RightF)) := by
  refine SumOK.of_leads tab_ok (fun ar os r ha hr => ?_) ⟨Try.f25, rfl, by decide, rfl⟩
  replace hr : r25 (R21_RightF) ar (conts os) = some r := hr
  unfold r25 at hr
  generalize hc : conts os = C at hr
  replace hr := dV.elim hr; obtain ⟨v0, l1, y0, rfl, e0, hr⟩ := hr; obtain rfl := uvhealth_Rule_eq _ _ e0
  replace hr := dFin hr; obtain ⟨rfl, rfl, x, h, rfl⟩ := hr
  obtain rfl := kinds_nil hc
  exact ⟨_, rfl, leads25 hS _ x h⟩
def R21_Right : health_Rule → Option Bool := R21_RightF
theorem lift25 : SumOK Try.prog 25 (s25 R21_Right) := ok25 (SumsOK.of_tab trivial)
end Go.Vm.Code
namespace Go.Vm.Code
open Go Go.Vm
theorem rright_eq (r : health_Rule) : R21_Right r = some (ruleB r) := by
  unfold R21_Right R21_RightF ruleB
  by_cases h1 : r.Rise ≥ 1
  · rw [cond_p h1]
    by_cases h2 : r.Rise ≤ 100
    · rw [cond_p h2]
      by_cases h3 : r.Fall ≥ 1
      · rw [cond_p h3]; congr 1; rw [decide_eq_decide]; omega
      · rw [cond_n h3]; congr 1; symm; rw [decide_eq_false_iff_not]; omega
    · rw [cond_n h2]; congr 1; symm; rw [decide_eq_false_iff_not]; omega
  · rw [cond_n h1]; congr 1; symm; rw [decide_eq_false_iff_not]; omega
def beqB (a b : api_Backend) : Bool := (a.ID == b.ID) && ((a.Weight == b.Weight) && ((a.State == b.State) && ((a.Addr.V6 == b.Addr.V6) && ((a.Addr.Hi == b.Addr.Hi) && ((a.Addr.Lo == b.Addr.Lo) && true)))))
theorem beqB_iff (a b : api_Backend) : beqB a b = true ↔ a = b := by
  unfold beqB
  constructor
  · intro h
    simp only [Bool.and_true, Bool.and_eq_true, beq_iff_eq] at h
    obtain ⟨h1, h2, h3, h4, h5, h6⟩ := h
    exact api_Backend.ext h1 h2 h3 (api_Addr.ext h4 h5 h6)
  · rintro rfl; simp
theorem beqB_eq (a b : api_Backend) : beqB a b = decide (a = b) := by rw [Bool.eq_iff_iff, beqB_iff, decide_eq_true_iff]
end Go.Vm.Code
namespace Go.Vm.Code
open Go Go.Vm Go.Proofs
set_option maxRecDepth 100000
set_option maxHeartbeats 4000000
set_option linter.unusedVariables false
def law23_awakeF (health_Right : health_Rule → Option Bool) (registry_Registry_Add : registry_Registry → Int → api_Addr → Option (Int × Int × registry_Registry)) (registry_Registry_Add_nil : Int → api_Addr → Option (Int × Int)) (registry_Registry_Get : registry_Registry → Int → Option (api_Backend × Bool)) (registry_Registry_List : registry_Registry → Option (List api_Backend)) (registry_Registry_List_nil : Option (List api_Backend)) (registry_Registry_Remove : registry_Registry → Int → Option (Int × registry_Registry)) (registry_Registry_Remove_nil : Int → Option Int) (registry_Registry_Reset : registry_Registry → Option registry_Registry) (registry_Registry_Reset_nil : Option Unit) (registry_Registry_Version : registry_Registry → Option Int) (registry_Registry_Version_nil : Option Int) : Option Bool :=
  (health_Right (health_Rule.mk 1 1)).bind fun xr =>
  cond (!xr)
    (
    (registry_Registry_Add_nil 5 (api_Addr.mk false 0 1)).bind fun n =>
    (registry_Registry_Remove_nil 1).bind fun n1 =>
    (registry_Registry_Add_nil 5 (api_Addr.mk false 0 1)).bind fun n2 =>
    (registry_Registry_Reset_nil).bind fun n3 =>
    (registry_Registry_Reset (registry_Registry.mk (health_Rule.mk 0 0) [] 0 0)).bind fun xr1 =>
    (registry_Registry_Add_nil 1 (api_Addr.mk false 0 0)).bind fun n4 =>
    (registry_Registry_Get xr1 1).bind fun xg =>
    some (false))
    (
    (registry_Registry_Add (registry_Registry.mk (health_Rule.mk 1 1) [] 0 0) 5 (api_Addr.mk false 0 1)).bind fun a =>
    (registry_Registry_Remove a.2.2 1).bind fun xr2 =>
    (registry_Registry_Add xr2.2 5 (api_Addr.mk false 0 1)).bind fun a1 =>
    (registry_Registry_Reset_nil).bind fun n5 =>
    (registry_Registry_Reset (registry_Registry.mk (health_Rule.mk 0 0) [] 0 0)).bind fun xr3 =>
    (registry_Registry_Add_nil 1 (api_Addr.mk false 0 0)).bind fun n6 =>
    (registry_Registry_Get xr3 1).bind fun xg1 =>
    cond (a.2.1 == 0)
      (
      cond (a.1 == 1)
        (
        cond (xr2.1 == 0)
          (
          cond (a1.2.1 == 0)
            (
            cond (a1.1 == 2)
              (
              cond (n6.2 == 1)
                (
                cond (!xg1.2)
                  (
                  (registry_Registry_Remove_nil 1).bind fun n7 =>
                  cond (n7 == 1)
                    (
                    (registry_Registry_Version_nil).bind fun n8 =>
                    (registry_Registry_Version xr3).bind fun xv =>
                    (registry_Registry_List_nil).bind fun n9 =>
                    let t := wI .i64 ((wI .i64 (n8 + xv)) + (n9.length : Int))
                    some (t == 0))
                    (
                    some (false)))
                  (
                  some (false)))
                (
                some (false)))
              (
              some (false)))
            (
            some (false)))
          (
          some (false)))
        (
        some (false)))
      (
      some (false)))
def rx15 (x : Bool) : SRes := ⟨.bool x, [], []⟩
def r15 (g : Option Bool) : Dec := dEnd (ofG (g) rx15)
theorem r15_c {g : Option Bool} {x : Bool} (hx : g = some x) : r15 g [] [] = some (rx15 x) := ofG_eq hx
def s15 (g : Option Bool) : Summ := ⟨[], r15 g⟩
theorem r15_eq {g : Option Bool} {x : Bool} (hx : g = some x) : (s15 g).run [] [] = some (rx15 x) := r15_c hx
abbrev sums15 (health_Right : health_Rule → Option Bool) (registry_Registry_Add : registry_Registry → Int → api_Addr → Option (Int × Int × registry_Registry)) (registry_Registry_Add_nil : Int → api_Addr → Option (Int × Int)) (registry_Registry_Get : registry_Registry → Int → Option (api_Backend × Bool)) (registry_Registry_List : registry_Registry → Option (List api_Backend)) (registry_Registry_List_nil : Option (List api_Backend)) (registry_Registry_Remove : registry_Registry → Int → Option (Int × registry_Registry)) (registry_Registry_Remove_nil : Int → Option Int) (registry_Registry_Reset : registry_Registry → Option registry_Registry) (registry_Registry_Reset_nil : Option Unit) (registry_Registry_Version : registry_Registry → Option Int) (registry_Registry_Version_nil : Option Int) : List (Nat × Summ) := [(69, s69 health_Right), (26, s26 registry_Registry_Add registry_Registry_Add_nil), (18, s18 registry_Registry_Get), (22, s22 registry_Registry_List registry_Registry_List_nil), (27, s27 registry_Registry_Remove registry_Registry_Remove_nil), (31, s31 registry_Registry_Reset registry_Registry_Reset_nil), (24, s24 registry_Registry_Version registry_Registry_Version_nil)]
theorem leads15 (health_Right : health_Rule → Option Bool) (registry_Registry_Add : registry_Registry → Int → api_Addr → Option (Int × Int × registry_Registry)) (registry_Registry_Add_nil : Int → api_Addr → Option (Int × Int)) (registry_Registry_Get : registry_Registry → Int → Option (api_Backend × Bool)) (registry_Registry_List : registry_Registry → Option (List api_Backend)) (registry_Registry_List_nil : Option (List api_Backend)) (registry_Registry_Remove : registry_Registry → Int → Option (Int × registry_Registry)) (registry_Registry_Remove_nil : Int → Option Int) (registry_Registry_Reset : registry_Registry → Option registry_Registry) (registry_Registry_Reset_nil : Option Unit) (registry_Registry_Version : registry_Registry → Option Int) (registry_Registry_Version_nil : Option Int) (hS : SumsOK Try.prog (aget (sums15 health_Right registry_Registry_Add registry_Registry_Add_nil registry_Registry_Get registry_Registry_List registry_Registry_List_nil registry_Registry_Remove registry_Registry_Remove_nil registry_Registry_Reset registry_Registry_Reset_nil registry_Registry_Version registry_Registry_Version_nil))) (res : Bool) (h : law23_awakeF health_Right registry_Registry_Add registry_Registry_Add_nil registry_Registry_Get registry_Registry_List registry_Registry_List_nil registry_Registry_Remove registry_Registry_Remove_nil registry_Registry_Reset registry_Registry_Reset_nil registry_Registry_Version registry_Registry_Version_nil = some res) :
    Leads Try.prog 15 0 ⟨⟨15, 97, [], [.code k15_23], [], false, none⟩, [], [], 0⟩ (fun v H _ => Res 0 (rx15 res) v H) := by
  unfold law23_awakeF at h
  refine ev_ok tab_ok hS true 3000 ?_
  conv => whnf
  replace h := obind.elim h; obtain ⟨xr, hy, h⟩ := h
  refine sumK.q rfl rfl (r69_eq hy) rfl rfl rfl ?_
  conv => whnf
  refine br.h h ?_ ?_ ?_
  · rfl
  · clear h; intro hb h; conv => whnf
    replace h := obind.elim h; obtain ⟨n, hy, h⟩ := h
    refine sumK.introF [] (sumRun_of (aqs := [.pointer none, .int .i64 5, .agg ⟨[.bool false, .int .u64 0, .int .u64 1]⟩]) (ws := [.no, .no]) (n := 0) (m := 0) (t' := 1) (ra_cons rfl rfl (ra_cons rfl rfl (ra_cons rfl rfl ra_nil))) rfl (by rfl) (r26n_eq hy) rfl rfl rfl rfl (wb_skip rfl (wb_skip rfl wb_nil)) an_nil rfl) ?_
    conv => whnf
    replace h := obind.elim h; obtain ⟨n1, hy, h⟩ := h
    refine sumK.introF [] (sumRun_of (aqs := [.pointer none, .int .i64 1]) (ws := [.no, .no]) (n := 0) (m := 0) (t' := 1) (ra_cons rfl rfl (ra_cons rfl rfl ra_nil)) rfl (by rfl) (r27n_eq hy) rfl rfl rfl rfl (wb_skip rfl (wb_skip rfl wb_nil)) an_nil rfl) ?_
    conv => whnf
    replace h := obind.elim h; obtain ⟨n2, hy, h⟩ := h
    refine sumK.introF [] (sumRun_of (aqs := [.pointer none, .int .i64 5, .agg ⟨[.bool false, .int .u64 0, .int .u64 1]⟩]) (ws := [.no, .no]) (n := 0) (m := 0) (t' := 1) (ra_cons rfl rfl (ra_cons rfl rfl (ra_cons rfl rfl ra_nil))) rfl (by rfl) (r26n_eq hy) rfl rfl rfl rfl (wb_skip rfl (wb_skip rfl wb_nil)) an_nil rfl) ?_
    conv => whnf
    replace h := obind.elim h; obtain ⟨n3, hy, h⟩ := h
    refine sumK.introF [] (sumRun_of (aqs := [.pointer none]) (ws := [.no, .no]) (n := 0) (m := 0) (t' := 2) (ra_cons rfl rfl ra_nil) rfl (by rfl) (r31n_eq hy) rfl rfl rfl rfl (wb_skip rfl (wb_skip rfl wb_nil)) an_nil rfl) ?_
    conv => whnf
    replace h := obind.elim h; obtain ⟨xr1, hy, h⟩ := h
    refine sumK.introF [1] (sumRun_of (aqs := [.pointer (some ⟨0, 0, none⟩)]) (ws := [.blk 1 true, .emp true]) (n := 1) (m := 1) (t' := 4) (ra_cons (ra_tr rfl rfl (vp_at rfl rfl rfl rfl (vp_emp vp_nil)) rfl) rfl ra_nil) rfl (by rfl) (r31_eq hy) rfl rfl rfl rfl (wb_blk rfl rfl rfl rfl (wb_skip rfl wb_nil)) (an_cons (rn_T cregistry_row_flat) an_nil) rfl) ?_
    conv => whnf
    replace h := obind.elim h; obtain ⟨n4, hy, h⟩ := h
    refine sumK.introF [] (sumRun_of (aqs := [.pointer none, .int .i64 1, .agg ⟨[.bool false, .int .u64 0, .int .u64 0]⟩]) (ws := [.no, .no]) (n := 0) (m := 0) (t' := 4) (ra_cons rfl rfl (ra_cons rfl rfl (ra_cons rfl rfl ra_nil))) rfl (by rfl) (r26n_eq hy) rfl rfl rfl rfl (wb_skip rfl (wb_skip rfl wb_nil)) an_nil rfl) ?_
    conv => whnf
    replace h := obind.elim h; obtain ⟨xg, hy, h⟩ := h
    refine sumK.introF [] (sumRun_of (aqs := [.pointer (some ⟨0, 0, none⟩), .int .i64 1]) (ws := [.blk 1 false, .blk 2 false]) (n := 0) (m := 0) (t' := 4) (ra_cons (ra_tr rfl rfl (vp_at rfl rfl rfl rfl (vp_at rfl rfl (rn_T cregistry_row_flat) rfl vp_nil)) rfl) rfl (ra_cons rfl rfl ra_nil)) rfl (by rfl) (r18_eq hy) rfl rfl rfl rfl (wb_skip rfl (wb_skip rfl wb_nil)) an_nil rfl) ?_
    conv => whnf
    all_goals (cases h; exact Res.z rfl rfl rfl)
  clear h; intro hb h; conv => whnf
  replace h := obind.elim h; obtain ⟨a, hy, h⟩ := h
  refine sumK.introF [1] (sumRun_of (aqs := [.pointer (some ⟨0, 0, none⟩), .int .i64 5, .agg ⟨[.bool false, .int .u64 0, .int .u64 1]⟩]) (ws := [.blk 1 true, .emp true]) (n := 1) (m := 1) (t' := 4) (ra_cons (ra_tr rfl rfl (vp_at rfl rfl rfl rfl (vp_emp vp_nil)) rfl) rfl (ra_cons rfl rfl (ra_cons rfl rfl ra_nil))) rfl (by rfl) (r26_eq hy) rfl rfl rfl rfl (wb_blk rfl rfl rfl rfl (wb_skip rfl wb_nil)) (an_cons (rn_T cregistry_row_flat) an_nil) rfl) ?_
  conv => whnf
  replace h := obind.elim h; obtain ⟨xr2, hy, h⟩ := h
  refine sumK.introF [1] (sumRun_of (aqs := [.pointer (some ⟨0, 0, none⟩), .int .i64 1]) (ws := [.blk 1 true, .blk 2 true]) (n := 1) (m := 0) (t' := 5) (ra_cons (ra_tr rfl rfl (vp_at rfl rfl rfl rfl (vp_at rfl rfl (rn_T cregistry_row_flat) rfl vp_nil)) rfl) rfl (ra_cons rfl rfl ra_nil)) rfl (by rfl) (r27_eq hy) rfl rfl rfl rfl (wb_blk rfl rfl rfl rfl (wb_del wb_nil)) (an_cons (rn_T cregistry_row_flat) an_nil) rfl) ?_
  conv => whnf
  replace h := obind.elim h; obtain ⟨a1, hy, h⟩ := h
  refine sumK.introF [1] (sumRun_of (aqs := [.pointer (some ⟨0, 0, none⟩), .int .i64 5, .agg ⟨[.bool false, .int .u64 0, .int .u64 1]⟩]) (ws := [.blk 1 true, .blk 4 true]) (n := 1) (m := 0) (t' := 6) (ra_cons (ra_tr rfl rfl (vp_at rfl rfl rfl rfl (vp_at rfl rfl (rn_T cregistry_row_flat) rfl vp_nil)) rfl) rfl (ra_cons rfl rfl (ra_cons rfl rfl ra_nil))) rfl (by rfl) (r26_eq hy) rfl rfl rfl rfl (wb_blk rfl rfl rfl rfl (wb_del wb_nil)) (an_cons (rn_T cregistry_row_flat) an_nil) rfl) ?_
  conv => whnf
  replace h := obind.elim h; obtain ⟨n5, hy, h⟩ := h
  refine sumK.introF [] (sumRun_of (aqs := [.pointer none]) (ws := [.no, .no]) (n := 0) (m := 0) (t' := 7) (ra_cons rfl rfl ra_nil) rfl (by rfl) (r31n_eq hy) rfl rfl rfl rfl (wb_skip rfl (wb_skip rfl wb_nil)) an_nil rfl) ?_
  conv => whnf
  replace h := obind.elim h; obtain ⟨xr3, hy, h⟩ := h
  refine sumK.introF [6] (sumRun_of (aqs := [.pointer (some ⟨0, 0, none⟩)]) (ws := [.blk 6 true, .emp true]) (n := 1) (m := 1) (t' := 9) (ra_cons (ra_tr rfl rfl (vp_at rfl rfl rfl rfl (vp_emp vp_nil)) rfl) rfl ra_nil) rfl (by rfl) (r31_eq hy) rfl rfl rfl rfl (wb_blk rfl rfl rfl rfl (wb_skip rfl wb_nil)) (an_cons (rn_T cregistry_row_flat) an_nil) rfl) ?_
  conv => whnf
  replace h := obind.elim h; obtain ⟨n6, hy, h⟩ := h
  refine sumK.introF [] (sumRun_of (aqs := [.pointer none, .int .i64 1, .agg ⟨[.bool false, .int .u64 0, .int .u64 0]⟩]) (ws := [.no, .no]) (n := 0) (m := 0) (t' := 9) (ra_cons rfl rfl (ra_cons rfl rfl (ra_cons rfl rfl ra_nil))) rfl (by rfl) (r26n_eq hy) rfl rfl rfl rfl (wb_skip rfl (wb_skip rfl wb_nil)) an_nil rfl) ?_
  conv => whnf
  replace h := obind.elim h; obtain ⟨xg1, hy, h⟩ := h
  refine sumK.introF [] (sumRun_of (aqs := [.pointer (some ⟨0, 0, none⟩), .int .i64 1]) (ws := [.blk 6 false, .blk 7 false]) (n := 0) (m := 0) (t' := 9) (ra_cons (ra_tr rfl rfl (vp_at rfl rfl rfl rfl (vp_at rfl rfl (rn_T cregistry_row_flat) rfl vp_nil)) rfl) rfl (ra_cons rfl rfl ra_nil)) rfl (by rfl) (r18_eq hy) rfl rfl rfl rfl (wb_skip rfl (wb_skip rfl wb_nil)) an_nil rfl) ?_
  conv => whnf
  refine br.h2 h ?_ ?_ ?_
  · rfl
  · clear h; intro hb h; conv => whnf
    all_goals (cases h; exact Res.z rfl rfl rfl)
  clear h; intro hb h; conv => whnf
  refine br.h2 h ?_ ?_ ?_
  · rfl
  · clear h; intro hb h; conv => whnf
    all_goals (cases h; exact Res.z rfl rfl rfl)
  clear h; intro hb h; conv => whnf
  refine br.h2 h ?_ ?_ ?_
  · rfl
  · clear h; intro hb h; conv => whnf
    all_goals (cases h; exact Res.z rfl rfl rfl)
  clear h; intro hb h; conv => whnf
  refine br.h2 h ?_ ?_ ?_
  · rfl
  · clear h; intro hb h; conv => whnf
    all_goals (cases h; exact Res.z rfl rfl rfl)
  clear h; intro hb h; conv => whnf
  refine br.h2 h ?_ ?_ ?_
  · rfl
  · clear h; intro hb h; conv => whnf
    all_goals (cases h; exact Res.z rfl rfl rfl)
  clear h; intro hb h; conv => whnf
  refine br.h2 h ?_ ?_ ?_
  · rfl
  · clear h; intro hb h; conv => whnf
    all_goals (cases h; exact Res.z rfl rfl rfl)
  clear h; intro hb h; conv => whnf
  refine br.h2 h ?_ ?_ ?_
  · rfl
  · clear h; intro hb h; conv => whnf
    all_goals (cases h; exact Res.z rfl rfl rfl)
  clear h; intro hb h; conv => whnf
  replace h := obind.elim h; obtain ⟨n7, hy, h⟩ := h
  refine sumK.introF [] (sumRun_of (aqs := [.pointer none, .int .i64 1]) (ws := [.no, .no]) (n := 0) (m := 0) (t' := 10) (ra_cons rfl rfl (ra_cons rfl rfl ra_nil)) rfl (by rfl) (r27n_eq hy) rfl rfl rfl rfl (wb_skip rfl (wb_skip rfl wb_nil)) an_nil rfl) ?_
  conv => whnf
  refine br.h2 h ?_ ?_ ?_
  · rfl
  · clear h; intro hb h; conv => whnf
    all_goals (cases h; exact Res.z rfl rfl rfl)
  clear h; intro hb h; conv => whnf
  replace h := obind.elim h; obtain ⟨n8, hy, h⟩ := h
  refine sumK.introF [] (sumRun_of (aqs := [.pointer none]) (ws := [.no, .no]) (n := 0) (m := 0) (t' := 10) (ra_cons rfl rfl ra_nil) rfl (by rfl) (r24n_eq hy) rfl rfl rfl rfl (wb_skip rfl (wb_skip rfl wb_nil)) an_nil rfl) ?_
  conv => whnf
  replace h := obind.elim h; obtain ⟨xv, hy, h⟩ := h
  refine sumK.introF [] (sumRun_of (aqs := [.pointer (some ⟨0, 0, none⟩)]) (ws := [.blk 6 false, .blk 7 false]) (n := 0) (m := 0) (t' := 10) (ra_cons (ra_tr rfl rfl (vp_at rfl rfl rfl rfl (vp_at rfl rfl (rn_T cregistry_row_flat) rfl vp_nil)) rfl) rfl ra_nil) rfl (by rfl) (r24_eq hy) rfl rfl rfl rfl (wb_skip rfl (wb_skip rfl wb_nil)) an_nil rfl) ?_
  conv => whnf
  replace h := obind.elim h; obtain ⟨n9, hy, h⟩ := h
  refine sumK.introF [] (sumRun_of (aqs := [.pointer none]) (ws := [.no, .no]) (n := 1) (m := 0) (t' := 11) (ra_cons rfl rfl ra_nil) rfl (by rfl) (r22n_eq hy) rfl rfl rfl rfl (wb_skip rfl (wb_skip rfl wb_nil)) (an_cons (rn_T capi_Backend_flat) an_nil) rfl) ?_
  conv => whnf
  let t : Int := wI .i64 ((wI .i64 (n8 + xv)) + (n9.length : Int))
  all_goals (cases h; exact Res.z rfl rfl rfl)
theorem ok15 (health_Right : health_Rule → Option Bool) (registry_Registry_Add : registry_Registry → Int → api_Addr → Option (Int × Int × registry_Registry)) (registry_Registry_Add_nil : Int → api_Addr → Option (Int × Int)) (registry_Registry_Get : registry_Registry → Int → Option (api_Backend × Bool)) (registry_Registry_List : registry_Registry → Option (List api_Backend)) (registry_Registry_List_nil : Option (List api_Backend)) (registry_Registry_Remove : registry_Registry → Int → Option (Int × registry_Registry)) (registry_Registry_Remove_nil : Int → Option Int) (registry_Registry_Reset : registry_Registry → Option registry_Registry) (registry_Registry_Reset_nil : Option Unit) (registry_Registry_Version : registry_Registry → Option Int) (registry_Registry_Version_nil : Option Int) (hS : SumsOK Try.prog (aget (sums15 health_Right registry_Registry_Add registry_Registry_Add_nil registry_Registry_Get registry_Registry_List registry_Registry_List_nil registry_Registry_Remove registry_Registry_Remove_nil registry_Registry_Reset registry_Registry_Reset_nil registry_Registry_Version registry_Registry_Version_nil))) : SumOK Try.prog 15 (s15 (law23_awakeF health_Right registry_Registry_Add registry_Registry_Add_nil registry_Registry_Get registry_Registry_List registry_Registry_List_nil registry_Registry_Remove registry_Registry_Remove_nil registry_Registry_Reset registry_Registry_Reset_nil registry_Registry_Version registry_Registry_Version_nil)) := by
  refine SumOK.of_leads tab_ok (fun ar os r ha hr => ?_) ⟨Try.f15, rfl, by decide, rfl⟩
  replace hr : r15 (law23_awakeF health_Right registry_Registry_Add registry_Registry_Add_nil registry_Registry_Get registry_Registry_List registry_Registry_List_nil registry_Registry_Remove registry_Registry_Remove_nil registry_Registry_Reset registry_Registry_Reset_nil registry_Registry_Version registry_Registry_Version_nil) ar (conts os) = some r := hr
  unfold r15 at hr
  generalize hc : conts os = C at hr
  replace hr := dFin hr; obtain ⟨rfl, rfl, x, h, rfl⟩ := hr
  obtain rfl := kinds_nil hc
  exact ⟨_, rfl, leads15 health_Right registry_Registry_Add registry_Registry_Add_nil registry_Registry_Get registry_Registry_List registry_Registry_List_nil registry_Registry_Remove registry_Registry_Remove_nil registry_Registry_Reset registry_Registry_Reset_nil registry_Registry_Version registry_Registry_Version_nil hS x h⟩
def law23_awake : Option Bool := law23_awakeF health_Right registry_Registry_Add registry_Registry_Add_nil registry_Registry_Get registry_Registry_List registry_Registry_List_nil registry_Registry_Remove registry_Registry_Remove_nil registry_Registry_Reset registry_Registry_Reset_nil registry_Registry_Version registry_Registry_Version_nil
theorem lift15 : SumOK Try.prog 15 (s15 law23_awake) := ok15 health_Right registry_Registry_Add registry_Registry_Add_nil registry_Registry_Get registry_Registry_List registry_Registry_List_nil registry_Registry_Remove registry_Registry_Remove_nil registry_Registry_Reset registry_Registry_Reset_nil registry_Registry_Version registry_Registry_Version_nil (SumsOK.of_tab ⟨lift69, lift26, lift18, lift22, lift27, lift31, lift24, trivial⟩)
def rx3 (x : Bool) : SRes := ⟨.bool x, [], [none]⟩
def r3 (g : health_Rule → (List R23_Step) → Option Bool) : Dec := dV uvhealth_Rule fun (y0 : health_Rule) => dSl 0 7 (unR 7 unR23_Step) fun (y1 : List R23_Step) => dEnd (ofG (g y0 y1) rx3)
def s3 (g : health_Rule → (List R23_Step) → Option Bool) : Summ := ⟨[.v, .sl 7], r3 g⟩
end Go.Vm.Code
namespace Go.Vm.Code
open Go Go.Vm
theorem rid_dec (g : registry_Registry) (id : Int) : (∃ (k : Nat) (r : registry_row), g.rows[k]? = some r ∧ r.Backend.ID = id) ∨ ∀ (k : Nat) r, g.rows[k]? = some r → r.Backend.ID ≠ id := by
  by_cases h : ∃ (k : Nat) (r : registry_row), g.rows[k]? = some r ∧ r.Backend.ID = id
  · exact .inl h
  · exact .inr fun k r hk he => h ⟨k, r, hk, he⟩
theorem awake23 : law23_awake = some true := by decide +kernel
end Go.Vm.Code
namespace Go.Vm.Code
open Go Go.Vm Go.Proofs
set_option maxRecDepth 100000
set_option maxHeartbeats 4000000
set_option linter.unusedVariables false
def law23_RegistryOthers_s1 (registry_Registry_Get : registry_Registry → Int → Option (api_Backend × Bool)) (l : List R23_Step) (i : Int) (e : R23_Step) (l1 : List api_Backend) (k : Int) (xg5 : Int) (xg6 : Int) (xg8 : Int) (xg9 : Int) (c1 : List registry_row) : Option (Sum (Int × Int × Int × Int × Int × (List registry_row)) (Sum (Int × Int × Int × Int × Int × (List registry_row)) Bool)) :=
  cond (decide (k < (l1.length : Int)))
    (
    oreq (decide ((0 : Int) ≤ k ∧ k < (l1.length : Int))) <|
    (l1[k.toNat]?).bind fun (e1 : api_Backend) =>
    (registry_Registry_Get (registry_Registry.mk (health_Rule.mk xg5 xg6) c1 xg8 xg9) e1.ID).bind fun xg10 =>
    oreq (decide ((0 : Int) ≤ k ∧ k < (l1.length : Int))) <|
    cond (e.Kind == 5)
      (
      cond (e1.State == 2)
        (
        cond (!xg10.2)
          (
          some (.inr (.inr (false))))
          (
          let t1 := !((xg10.1.ID == e1.ID) && ((xg10.1.Weight == e1.Weight) && ((xg10.1.State == 1) && ((xg10.1.Addr.V6 == e1.Addr.V6) && ((xg10.1.Addr.Hi == e1.Addr.Hi) && ((xg10.1.Addr.Lo == e1.Addr.Lo) && true))))))
          cond (t1)
            (
            cond (decide (e.Kind < 1))
              (
              some (.inr (.inr (false))))
              (
              cond (decide (e.Kind > 4))
                (
                some (.inr (.inr (false))))
                (
                cond (e.ID != e1.ID)
                  (
                  some (.inr (.inr (false))))
                  (
                  some (.inl (wI .i64 (k + 1), xg5, xg6, xg8, xg9, c1))))))
            (
            some (.inl (wI .i64 (k + 1), xg5, xg6, xg8, xg9, c1)))))
        (
        cond (!xg10.2)
          (
          some (.inr (.inr (false))))
          (
          let t2 := !((xg10.1.ID == e1.ID) && ((xg10.1.Weight == e1.Weight) && ((xg10.1.State == e1.State) && ((xg10.1.Addr.V6 == e1.Addr.V6) && ((xg10.1.Addr.Hi == e1.Addr.Hi) && ((xg10.1.Addr.Lo == e1.Addr.Lo) && true))))))
          cond (t2)
            (
            cond (decide (e.Kind < 1))
              (
              some (.inr (.inr (false))))
              (
              cond (decide (e.Kind > 4))
                (
                some (.inr (.inr (false))))
                (
                cond (e.ID != e1.ID)
                  (
                  some (.inr (.inr (false))))
                  (
                  some (.inl (wI .i64 (k + 1), xg5, xg6, xg8, xg9, c1))))))
            (
            some (.inl (wI .i64 (k + 1), xg5, xg6, xg8, xg9, c1))))))
      (
      cond (!xg10.2)
        (
        some (.inr (.inr (false))))
        (
        let t3 := !((xg10.1.ID == e1.ID) && ((xg10.1.Weight == e1.Weight) && ((xg10.1.State == e1.State) && ((xg10.1.Addr.V6 == e1.Addr.V6) && ((xg10.1.Addr.Hi == e1.Addr.Hi) && ((xg10.1.Addr.Lo == e1.Addr.Lo) && true))))))
        cond (t3)
          (
          cond (decide (e.Kind < 1))
            (
            some (.inr (.inr (false))))
            (
            cond (decide (e.Kind > 4))
              (
              some (.inr (.inr (false))))
              (
              cond (e.ID != e1.ID)
                (
                some (.inr (.inr (false))))
                (
                some (.inl (wI .i64 (k + 1), xg5, xg6, xg8, xg9, c1))))))
          (
          some (.inl (wI .i64 (k + 1), xg5, xg6, xg8, xg9, c1))))))
    (
    some (.inr (.inl (wI .i64 (i + 1), xg5, xg6, xg8, xg9, c1))))
def law23_RegistryOthers_s2 (law23_awake : Option Bool) (registry_Registry_Add : registry_Registry → Int → api_Addr → Option (Int × Int × registry_Registry)) (registry_Registry_Drain : registry_Registry → Int → Bool → Option (Int × registry_Registry)) (registry_Registry_Get : registry_Registry → Int → Option (api_Backend × Bool)) (registry_Registry_List : registry_Registry → Option (List api_Backend)) (registry_Registry_Probe : registry_Registry → Int → Bool → Option (Bool × Int × registry_Registry)) (registry_Registry_Remove : registry_Registry → Int → Option (Int × registry_Registry)) (registry_Registry_Reset : registry_Registry → Option registry_Registry) (registry_Registry_Weight : registry_Registry → Int → Int → Option (Int × registry_Registry)) (l : List R23_Step) (i : Int) (xg : Int) (xg1 : Int) (xg3 : Int) (xg4 : Int) (c : List registry_row) : Option (Sum (Int × Int × Int × Int × Int × (List registry_row)) Bool) :=
  cond (decide (i < (l.length : Int)))
    (
    oreq (decide ((0 : Int) ≤ i ∧ i < (l.length : Int))) <|
    (l[i.toNat]?).bind fun (e : R23_Step) =>
    (registry_Registry_List (registry_Registry.mk (health_Rule.mk xg xg1) c xg3 xg4)).bind fun l1 =>
    cond (e.Kind == 0)
      (
      (registry_Registry_Add (registry_Registry.mk (health_Rule.mk xg xg1) c xg3 xg4) e.N e.Addr).bind fun a2 =>
      cond (a2.2.1 == 0)
        (
        (registry_Registry_List a2.2.2).bind fun l2 =>
        let t := (l2.length : Int) != (wI .i64 ((l1.length : Int) + 1))
        cond (t)
          (
          some (.inr (false)))
          (
          iter (fun st => law23_RegistryOthers_s1 registry_Registry_Get l i e l1 st.1 st.2.1 st.2.2.1 st.2.2.2.1 st.2.2.2.2.1 st.2.2.2.2.2) FUEL (0, a2.2.2.rule.Rise, a2.2.2.rule.Fall, a2.2.2.last, a2.2.2.version, a2.2.2.rows)))
        (
        (registry_Registry_List a2.2.2).bind fun l3 =>
        let t4 := (l3.length : Int) != (wI .i64 ((l1.length : Int) + 0))
        cond (t4)
          (
          some (.inr (false)))
          (
          iter (fun st => law23_RegistryOthers_s1 registry_Registry_Get l i e l1 st.1 st.2.1 st.2.2.1 st.2.2.2.1 st.2.2.2.2.1 st.2.2.2.2.2) FUEL (0, a2.2.2.rule.Rise, a2.2.2.rule.Fall, a2.2.2.last, a2.2.2.version, a2.2.2.rows))))
      (
      cond (e.Kind == 1)
        (
        (registry_Registry_Remove (registry_Registry.mk (health_Rule.mk xg xg1) c xg3 xg4) e.ID).bind fun xr2 =>
        cond (xr2.1 == 0)
          (
          (registry_Registry_List xr2.2).bind fun l4 =>
          let t5 := (l4.length : Int) != (wI .i64 ((l1.length : Int) + (-1)))
          cond (t5)
            (
            some (.inr (false)))
            (
            iter (fun st => law23_RegistryOthers_s1 registry_Registry_Get l i e l1 st.1 st.2.1 st.2.2.1 st.2.2.2.1 st.2.2.2.2.1 st.2.2.2.2.2) FUEL (0, xr2.2.rule.Rise, xr2.2.rule.Fall, xr2.2.last, xr2.2.version, xr2.2.rows)))
          (
          (registry_Registry_List xr2.2).bind fun l5 =>
          let t6 := (l5.length : Int) != (wI .i64 ((l1.length : Int) + 0))
          cond (t6)
            (
            some (.inr (false)))
            (
            iter (fun st => law23_RegistryOthers_s1 registry_Registry_Get l i e l1 st.1 st.2.1 st.2.2.1 st.2.2.2.1 st.2.2.2.2.1 st.2.2.2.2.2) FUEL (0, xr2.2.rule.Rise, xr2.2.rule.Fall, xr2.2.last, xr2.2.version, xr2.2.rows))))
        (
        cond (e.Kind == 2)
          (
          (registry_Registry_Drain (registry_Registry.mk (health_Rule.mk xg xg1) c xg3 xg4) e.ID e.On).bind fun d =>
          (registry_Registry_List d.2).bind fun l6 =>
          let t7 := (l6.length : Int) != (wI .i64 ((l1.length : Int) + 0))
          cond (t7)
            (
            some (.inr (false)))
            (
            iter (fun st => law23_RegistryOthers_s1 registry_Registry_Get l i e l1 st.1 st.2.1 st.2.2.1 st.2.2.2.1 st.2.2.2.2.1 st.2.2.2.2.2) FUEL (0, d.2.rule.Rise, d.2.rule.Fall, d.2.last, d.2.version, d.2.rows)))
          (
          cond (e.Kind == 3)
            (
            (registry_Registry_Weight (registry_Registry.mk (health_Rule.mk xg xg1) c xg3 xg4) e.ID e.N).bind fun w =>
            (registry_Registry_List w.2).bind fun l7 =>
            let t8 := (l7.length : Int) != (wI .i64 ((l1.length : Int) + 0))
            cond (t8)
              (
              some (.inr (false)))
              (
              iter (fun st => law23_RegistryOthers_s1 registry_Registry_Get l i e l1 st.1 st.2.1 st.2.2.1 st.2.2.2.1 st.2.2.2.2.1 st.2.2.2.2.2) FUEL (0, w.2.rule.Rise, w.2.rule.Fall, w.2.last, w.2.version, w.2.rows)))
            (
            cond (e.Kind == 4)
              (
              (registry_Registry_Probe (registry_Registry.mk (health_Rule.mk xg xg1) c xg3 xg4) e.ID e.On).bind fun p =>
              (registry_Registry_List p.2.2).bind fun l8 =>
              let t9 := (l8.length : Int) != (wI .i64 ((l1.length : Int) + 0))
              cond (t9)
                (
                some (.inr (false)))
                (
                iter (fun st => law23_RegistryOthers_s1 registry_Registry_Get l i e l1 st.1 st.2.1 st.2.2.1 st.2.2.2.1 st.2.2.2.2.1 st.2.2.2.2.2) FUEL (0, p.2.2.rule.Rise, p.2.2.rule.Fall, p.2.2.last, p.2.2.version, p.2.2.rows)))
              (
              cond (e.Kind == 5)
                (
                (registry_Registry_Reset (registry_Registry.mk (health_Rule.mk xg xg1) c xg3 xg4)).bind fun xr3 =>
                (registry_Registry_List xr3).bind fun l9 =>
                let t10 := (l9.length : Int) != (wI .i64 ((l1.length : Int) + 0))
                cond (t10)
                  (
                  some (.inr (false)))
                  (
                  iter (fun st => law23_RegistryOthers_s1 registry_Registry_Get l i e l1 st.1 st.2.1 st.2.2.1 st.2.2.2.1 st.2.2.2.2.1 st.2.2.2.2.2) FUEL (0, xr3.rule.Rise, xr3.rule.Fall, xr3.last, xr3.version, xr3.rows)))
                (
                (registry_Registry_List (registry_Registry.mk (health_Rule.mk xg xg1) c xg3 xg4)).bind fun l10 =>
                let t11 := (l10.length : Int) != (wI .i64 ((l1.length : Int) + 0))
                cond (t11)
                  (
                  some (.inr (false)))
                  (
                  iter (fun st => law23_RegistryOthers_s1 registry_Registry_Get l i e l1 st.1 st.2.1 st.2.2.1 st.2.2.2.1 st.2.2.2.2.1 st.2.2.2.2.2) FUEL (0, xg, xg1, xg3, xg4, c)))))))))
    (
    (law23_awake).bind fun a3 =>
    some (.inr (a3)))
def law23_RegistryOthersF (R21_Right : health_Rule → Option Bool) (health_Right : health_Rule → Option Bool) (law23_awake : Option Bool) (registry_Registry_Add : registry_Registry → Int → api_Addr → Option (Int × Int × registry_Registry)) (registry_Registry_Add_nil : Int → api_Addr → Option (Int × Int)) (registry_Registry_Drain : registry_Registry → Int → Bool → Option (Int × registry_Registry)) (registry_Registry_Get : registry_Registry → Int → Option (api_Backend × Bool)) (registry_Registry_List : registry_Registry → Option (List api_Backend)) (registry_Registry_List_nil : Option (List api_Backend)) (registry_Registry_Probe : registry_Registry → Int → Bool → Option (Bool × Int × registry_Registry)) (registry_Registry_Remove : registry_Registry → Int → Option (Int × registry_Registry)) (registry_Registry_Remove_nil : Int → Option Int) (registry_Registry_Reset : registry_Registry → Option registry_Registry) (registry_Registry_Reset_nil : Option Unit) (registry_Registry_Weight : registry_Registry → Int → Int → Option (Int × registry_Registry)) (ra0 : health_Rule) (l : List R23_Step) : Option Bool :=
  (R21_Right ra0).bind fun xr =>
  cond (!xr)
    (
    (law23_awake).bind fun a =>
    some (a))
    (
    cond (decide ((l.length : Int) > 100))
      (
      (law23_awake).bind fun a1 =>
      some (a1))
      (
      (health_Right ra0).bind fun xr1 =>
      cond (!xr1)
        (
        some (false))
        (
        iter (fun st => law23_RegistryOthers_s2 law23_awake registry_Registry_Add registry_Registry_Drain registry_Registry_Get registry_Registry_List registry_Registry_Probe registry_Registry_Remove registry_Registry_Reset registry_Registry_Weight l st.1 st.2.1 st.2.2.1 st.2.2.2.1 st.2.2.2.2.1 st.2.2.2.2.2) FUEL (0, ra0.Rise, ra0.Fall, 0, 0, []))))
def rx5 (x : Bool) : SRes := ⟨.bool x, [], [none]⟩
def r5 (g : health_Rule → (List R23_Step) → Option Bool) : Dec := dV uvhealth_Rule fun (y0 : health_Rule) => dSl 0 7 (unR 7 unR23_Step) fun (y1 : List R23_Step) => dEnd (ofG (g y0 y1) rx5)
def s5 (g : health_Rule → (List R23_Step) → Option Bool) : Summ := ⟨[.v, .sl 7], r5 g⟩
abbrev sums5 (R21_Right : health_Rule → Option Bool) (health_Right : health_Rule → Option Bool) (law23_awake : Option Bool) (registry_Registry_Add : registry_Registry → Int → api_Addr → Option (Int × Int × registry_Registry)) (registry_Registry_Add_nil : Int → api_Addr → Option (Int × Int)) (registry_Registry_Drain : registry_Registry → Int → Bool → Option (Int × registry_Registry)) (registry_Registry_Get : registry_Registry → Int → Option (api_Backend × Bool)) (registry_Registry_List : registry_Registry → Option (List api_Backend)) (registry_Registry_List_nil : Option (List api_Backend)) (registry_Registry_Probe : registry_Registry → Int → Bool → Option (Bool × Int × registry_Registry)) (registry_Registry_Remove : registry_Registry → Int → Option (Int × registry_Registry)) (registry_Registry_Remove_nil : Int → Option Int) (registry_Registry_Reset : registry_Registry → Option registry_Registry) (registry_Registry_Reset_nil : Option Unit) (registry_Registry_Weight : registry_Registry → Int → Int → Option (Int × registry_Registry)) : List (Nat × Summ) := [(25, s25 R21_Right), (69, s69 health_Right), (15, s15 law23_awake), (26, s26 registry_Registry_Add registry_Registry_Add_nil), (28, s28 registry_Registry_Drain), (18, s18 registry_Registry_Get), (22, s22 registry_Registry_List registry_Registry_List_nil), (30, s30 registry_Registry_Probe), (27, s27 registry_Registry_Remove registry_Registry_Remove_nil), (31, s31 registry_Registry_Reset registry_Registry_Reset_nil), (29, s29 registry_Registry_Weight)]
def head5_1 (l : List R23_Step) (i : Int) (e : R23_Step) (l1 : List api_Backend) (k : Int) (xg5 : Int) (xg6 : Int) (xg8 : Int) (xg9 : Int) (c1 : List registry_row) : VM :=
  ⟨⟨5, 163, [(1, .slice (some ⟨0, 0, none⟩) l.length 7), (5, .pointer (some ⟨3, 0, none⟩)), (7, .int .i64 i), (8, .pointer (some ⟨5, 0, none⟩)), (9, .slice (some ⟨6, 0, none⟩) l1.length 6), (14, .int .i64 k)], [.code k5_81, .inLoop k5_81, .inBlock 3, .inBlock 1, .code k5_92, .inLoop k5_94, .inBlock 0, .code k5_99], [], false, none⟩, [], [(0, .row false (vT cR23_Step l)), (3, .cells [.int .i64 xg5, .int .i64 xg6, .slice (some ⟨7, 0, none⟩) c1.length 9, .int .i64 xg8, .int .i64 xg9]), (5, .cells [.int .i64 e.Kind, .int .i64 e.ID, .int .i64 e.N, .bool e.Addr.V6, .int .u64 e.Addr.Hi, .int .u64 e.Addr.Lo, .bool e.On]), (6, .row true (vT capi_Backend l1)), (7, .row true (vT cregistry_row c1))], 9⟩
def head5_2 (l : List R23_Step) (i : Int) (xg : Int) (xg1 : Int) (xg3 : Int) (xg4 : Int) (c : List registry_row) : VM :=
  ⟨⟨5, 163, [(1, .slice (some ⟨0, 0, none⟩) l.length 7), (5, .pointer (some ⟨3, 0, none⟩)), (7, .int .i64 i)], [.code k5_94, .inLoop k5_94, .inBlock 0, .code k5_99], [], false, none⟩, [], [(0, .row false (vT cR23_Step l)), (3, .cells [.int .i64 xg, .int .i64 xg1, .slice (some ⟨4, 0, none⟩) c.length 9, .int .i64 xg3, .int .i64 xg4]), (4, .row true (vT cregistry_row c))], 5⟩
theorem loop5_1 (R21_Right : health_Rule → Option Bool) (health_Right : health_Rule → Option Bool) (law23_awake : Option Bool) (registry_Registry_Add : registry_Registry → Int → api_Addr → Option (Int × Int × registry_Registry)) (registry_Registry_Add_nil : Int → api_Addr → Option (Int × Int)) (registry_Registry_Drain : registry_Registry → Int → Bool → Option (Int × registry_Registry)) (registry_Registry_Get : registry_Registry → Int → Option (api_Backend × Bool)) (registry_Registry_List : registry_Registry → Option (List api_Backend)) (registry_Registry_List_nil : Option (List api_Backend)) (registry_Registry_Probe : registry_Registry → Int → Bool → Option (Bool × Int × registry_Registry)) (registry_Registry_Remove : registry_Registry → Int → Option (Int × registry_Registry)) (registry_Registry_Remove_nil : Int → Option Int) (registry_Registry_Reset : registry_Registry → Option registry_Registry) (registry_Registry_Reset_nil : Option Unit) (registry_Registry_Weight : registry_Registry → Int → Int → Option (Int × registry_Registry)) (hS : SumsOK Try.prog (aget (sums5 R21_Right health_Right law23_awake registry_Registry_Add registry_Registry_Add_nil registry_Registry_Drain registry_Registry_Get registry_Registry_List registry_Registry_List_nil registry_Registry_Probe registry_Registry_Remove registry_Registry_Remove_nil registry_Registry_Reset registry_Registry_Reset_nil registry_Registry_Weight))) (l : List R23_Step) (i : Int) (e : R23_Step) (l1 : List api_Backend) (res : Bool) : ∀ fuel (st : Int × Int × Int × Int × Int × (List registry_row)) (o : Sum (Int × Int × Int × Int × Int × (List registry_row)) Bool), iter (fun st => law23_RegistryOthers_s1 registry_Registry_Get l i e l1 st.1 st.2.1 st.2.2.1 st.2.2.2.1 st.2.2.2.2.1 st.2.2.2.2.2) fuel st = some o → (Sum.elim (fun s0 => Leads Try.prog 5 1 (head5_2 l s0.1 s0.2.1 s0.2.2.1 s0.2.2.2.1 s0.2.2.2.2.1 s0.2.2.2.2.2) (fun v H _ => Res 1 (rx5 res) v H)) (fun r0 => r0 = res) o) →
    Leads Try.prog 5 1 (head5_1 l i e l1 st.1 st.2.1 st.2.2.1 st.2.2.2.1 st.2.2.2.2.1 st.2.2.2.2.2) (fun v H _ => Res 1 (rx5 res) v H) := by
  intro fuel st o h hc
  refine iter_leads (head := fun st => head5_1 l i e l1 st.1 st.2.1 st.2.2.1 st.2.2.2.1 st.2.2.2.2.1 st.2.2.2.2.2) (C := fun o => (Sum.elim (fun s0 => Leads Try.prog 5 1 (head5_2 l s0.1 s0.2.1 s0.2.2.1 s0.2.2.2.1 s0.2.2.2.2.1 s0.2.2.2.2.2) (fun v H _ => Res 1 (rx5 res) v H)) (fun r0 => r0 = res) o)) ?_ fuel st o h hc
  clear h hc o st fuel
  intro st o h hc
  obtain ⟨k, xg5, xg6, xg8, xg9, c1⟩ := st
  replace h : law23_RegistryOthers_s1 registry_Registry_Get l i e l1 k xg5 xg6 xg8 xg9 c1 = some o := h
  show Leads Try.prog 5 1 (head5_1 l i e l1 k xg5 xg6 xg8 xg9 c1) (fun v H _ => Res 1 (rx5 res) v H)
  unfold law23_RegistryOthers_s1 at h
  refine ev_ok tab_ok hS true 3000 ?_
  conv => whnf
  refine br.h2 h ?_ ?_ ?_
  · rfl
  · clear h; intro hb h; conv => whnf
    cases h; simp only [Sum.elim_inr, Sum.elim_inl, head5_2] at hc
    refine Leads.re hc [(0, 0), (3, 3), (4, 7)] rfl ?_ ?_ <;> (repeat' first | exact trivial | refine ⟨⟨_, rfl, rfl⟩, ?_⟩ | refine ⟨⟨_, _, rfl, rfl, .rowF (vI_flat _ _) id⟩, ?_⟩ | refine ⟨⟨_, _, rfl, rfl, .rowF (vS_flat _) id⟩, ?_⟩ | refine ⟨⟨_, _, rfl, rfl, .rowF (vB_flat _) id⟩, ?_⟩ | refine ⟨⟨_, _, rfl, rfl, .rowF (vT_flat (by first | exact chealth_Rule_flat | exact capi_Addr_flat | exact cR23_Step_flat | exact capi_Backend_flat | exact chealth_State_flat | exact cregistry_row_flat | exact cR23_Row_flat) _) id⟩, ?_⟩ | refine ⟨⟨_, _, rfl, rfl, .tyF (vI_flat _ _)⟩, ?_⟩ | refine ⟨⟨_, _, rfl, rfl, .ty rfl⟩, ?_⟩ | refine ⟨⟨_, _, rfl, rfl, .cells rfl⟩, ?_⟩ | refine ⟨⟨_, _, rfl, rfl, .row rfl id⟩, ?_⟩ | refine ⟨⟨_, _, rfl, rfl, .cr rfl⟩, ?_⟩ | refine ⟨⟨_, _, rfl, rfl, .rc rfl⟩, ?_⟩ | refine ⟨⟨_, _, rfl, rfl, .marks⟩, ?_⟩ | refine ⟨⟨_, _, rfl, rfl, .siter _ _⟩, ?_⟩ | refine ⟨⟨_, _, rfl, rfl, .loop rfl rfl rfl rfl (by repeat' first | exact trivial | refine ⟨rfl, ?_⟩) rfl rfl rfl rfl⟩, ?_⟩)
  clear h; intro hb h; conv => whnf
  replace h := oreq.elim h; obtain ⟨hb, h⟩ := h
  first | (refine req.intro hb ?_; conv => whnf) | skip
  replace h := obind.elim h; obtain ⟨e1, hy, h⟩ := h
  refine rd.T (j := 0) capi_Backend_len hy (by first | omega | exact Nat.zero_add _ | exact congrArg (· + _) (Nat.zero_add _)) (by decide) rfl ?_
  conv => whnf
  replace h := obind.elim h; obtain ⟨xg10, hy, h⟩ := h
  refine sumK.introF [] (sumRun_of (aqs := [.pointer (some ⟨0, 0, none⟩), .int .i64 e1.ID]) (ws := [.blk 3 false, .blk 7 false]) (n := 0) (m := 0) (t' := 9) (ra_cons (ra_tr rfl rfl (vp_at rfl rfl rfl rfl (vp_at rfl rfl (rn_T cregistry_row_flat) rfl vp_nil)) rfl) rfl (ra_cons rfl rfl ra_nil)) rfl (by rfl) (r18_eq hy) rfl rfl rfl rfl (wb_skip rfl (wb_skip rfl wb_nil)) an_nil rfl) ?_
  conv => whnf
  replace h := oreq.elim h; obtain ⟨hb, h⟩ := h
  first | (refine req.intro hb ?_; conv => whnf) | skip
  refine ld_T (i := k.toNat) (x := e1) capi_Backend_len (by assumption) (by first | omega | exact Nat.zero_add _ | exact congrArg (· + _) (Nat.zero_add _)) rfl ?_
  conv => whnf
  refine br.h2 h ?_ ?_ ?_
  · rfl
  · clear h; intro hb h; conv => whnf
    refine br.h h ?_ ?_ ?_
    · rfl
    · clear h; intro hb h; conv => whnf
      all_goals (cases h; cases hc)
      all_goals exact Res.of [] rfl nw_0 (by decide) js_0 (wr_n wr_0)
    clear h; intro hb h; conv => whnf
    let t3 : Bool := !((xg10.1.ID == e1.ID) && ((xg10.1.Weight == e1.Weight) && ((xg10.1.State == e1.State) && ((xg10.1.Addr.V6 == e1.Addr.V6) && ((xg10.1.Addr.Hi == e1.Addr.Hi) && ((xg10.1.Addr.Lo == e1.Addr.Lo) && true))))))
    refine br.h2 h ?_ ?_ ?_
    · rfl
    · clear h; intro hb h; conv => whnf
      cases h; simp only [Sum.elim_inl, head5_1] at hc
      refine Leads.re hc [(0, 0), (3, 3), (5, 5), (6, 6), (7, 7)] rfl ?_ ?_ <;> (repeat' first | exact trivial | refine ⟨⟨_, rfl, rfl⟩, ?_⟩ | refine ⟨⟨_, _, rfl, rfl, .rowF (vI_flat _ _) id⟩, ?_⟩ | refine ⟨⟨_, _, rfl, rfl, .rowF (vS_flat _) id⟩, ?_⟩ | refine ⟨⟨_, _, rfl, rfl, .rowF (vB_flat _) id⟩, ?_⟩ | refine ⟨⟨_, _, rfl, rfl, .rowF (vT_flat (by first | exact chealth_Rule_flat | exact capi_Addr_flat | exact cR23_Step_flat | exact capi_Backend_flat | exact chealth_State_flat | exact cregistry_row_flat | exact cR23_Row_flat) _) id⟩, ?_⟩ | refine ⟨⟨_, _, rfl, rfl, .tyF (vI_flat _ _)⟩, ?_⟩ | refine ⟨⟨_, _, rfl, rfl, .ty rfl⟩, ?_⟩ | refine ⟨⟨_, _, rfl, rfl, .cells rfl⟩, ?_⟩ | refine ⟨⟨_, _, rfl, rfl, .row rfl id⟩, ?_⟩ | refine ⟨⟨_, _, rfl, rfl, .cr rfl⟩, ?_⟩ | refine ⟨⟨_, _, rfl, rfl, .rc rfl⟩, ?_⟩ | refine ⟨⟨_, _, rfl, rfl, .marks⟩, ?_⟩ | refine ⟨⟨_, _, rfl, rfl, .siter _ _⟩, ?_⟩ | refine ⟨⟨_, _, rfl, rfl, .loop rfl rfl rfl rfl (by repeat' first | exact trivial | refine ⟨rfl, ?_⟩) rfl rfl rfl rfl⟩, ?_⟩)
    clear h; intro hb h; conv => whnf
    refine br.h h ?_ ?_ ?_
    · rfl
    · clear h; intro hb h; conv => whnf
      all_goals (cases h; cases hc)
      all_goals exact Res.of [] rfl nw_0 (by decide) js_0 (wr_n wr_0)
    clear h; intro hb h; conv => whnf
    refine br.h h ?_ ?_ ?_
    · rfl
    · clear h; intro hb h; conv => whnf
      all_goals (cases h; cases hc)
      all_goals exact Res.of [] rfl nw_0 (by decide) js_0 (wr_n wr_0)
    clear h; intro hb h; conv => whnf
    refine br.h h ?_ ?_ ?_
    · rfl
    · clear h; intro hb h; conv => whnf
      all_goals (cases h; cases hc)
      all_goals exact Res.of [] rfl nw_0 (by decide) js_0 (wr_n wr_0)
    clear h; intro hb h; conv => whnf
    cases h; simp only [Sum.elim_inl, head5_1] at hc
    refine Leads.re hc [(0, 0), (3, 3), (5, 5), (6, 6), (7, 7)] rfl ?_ ?_ <;> (repeat' first | exact trivial | refine ⟨⟨_, rfl, rfl⟩, ?_⟩ | refine ⟨⟨_, _, rfl, rfl, .rowF (vI_flat _ _) id⟩, ?_⟩ | refine ⟨⟨_, _, rfl, rfl, .rowF (vS_flat _) id⟩, ?_⟩ | refine ⟨⟨_, _, rfl, rfl, .rowF (vB_flat _) id⟩, ?_⟩ | refine ⟨⟨_, _, rfl, rfl, .rowF (vT_flat (by first | exact chealth_Rule_flat | exact capi_Addr_flat | exact cR23_Step_flat | exact capi_Backend_flat | exact chealth_State_flat | exact cregistry_row_flat | exact cR23_Row_flat) _) id⟩, ?_⟩ | refine ⟨⟨_, _, rfl, rfl, .tyF (vI_flat _ _)⟩, ?_⟩ | refine ⟨⟨_, _, rfl, rfl, .ty rfl⟩, ?_⟩ | refine ⟨⟨_, _, rfl, rfl, .cells rfl⟩, ?_⟩ | refine ⟨⟨_, _, rfl, rfl, .row rfl id⟩, ?_⟩ | refine ⟨⟨_, _, rfl, rfl, .cr rfl⟩, ?_⟩ | refine ⟨⟨_, _, rfl, rfl, .rc rfl⟩, ?_⟩ | refine ⟨⟨_, _, rfl, rfl, .marks⟩, ?_⟩ | refine ⟨⟨_, _, rfl, rfl, .siter _ _⟩, ?_⟩ | refine ⟨⟨_, _, rfl, rfl, .loop rfl rfl rfl rfl (by repeat' first | exact trivial | refine ⟨rfl, ?_⟩) rfl rfl rfl rfl⟩, ?_⟩)
  clear h; intro hb h; conv => whnf
  refine br.h h ?_ ?_ ?_
  · rfl
  · clear h; intro hb h; conv => whnf
    refine br.h h ?_ ?_ ?_
    · rfl
    · clear h; intro hb h; conv => whnf
      all_goals (cases h; cases hc)
      all_goals exact Res.of [] rfl nw_0 (by decide) js_0 (wr_n wr_0)
    clear h; intro hb h; conv => whnf
    let t1 : Bool := !((xg10.1.ID == e1.ID) && ((xg10.1.Weight == e1.Weight) && ((xg10.1.State == 1) && ((xg10.1.Addr.V6 == e1.Addr.V6) && ((xg10.1.Addr.Hi == e1.Addr.Hi) && ((xg10.1.Addr.Lo == e1.Addr.Lo) && true))))))
    refine br.h2 h ?_ ?_ ?_
    · rfl
    · clear h; intro hb h; conv => whnf
      cases h; simp only [Sum.elim_inl, head5_1] at hc
      refine Leads.re hc [(0, 0), (3, 3), (5, 5), (6, 6), (7, 7)] rfl ?_ ?_ <;> (repeat' first | exact trivial | refine ⟨⟨_, rfl, rfl⟩, ?_⟩ | refine ⟨⟨_, _, rfl, rfl, .rowF (vI_flat _ _) id⟩, ?_⟩ | refine ⟨⟨_, _, rfl, rfl, .rowF (vS_flat _) id⟩, ?_⟩ | refine ⟨⟨_, _, rfl, rfl, .rowF (vB_flat _) id⟩, ?_⟩ | refine ⟨⟨_, _, rfl, rfl, .rowF (vT_flat (by first | exact chealth_Rule_flat | exact capi_Addr_flat | exact cR23_Step_flat | exact capi_Backend_flat | exact chealth_State_flat | exact cregistry_row_flat | exact cR23_Row_flat) _) id⟩, ?_⟩ | refine ⟨⟨_, _, rfl, rfl, .tyF (vI_flat _ _)⟩, ?_⟩ | refine ⟨⟨_, _, rfl, rfl, .ty rfl⟩, ?_⟩ | refine ⟨⟨_, _, rfl, rfl, .cells rfl⟩, ?_⟩ | refine ⟨⟨_, _, rfl, rfl, .row rfl id⟩, ?_⟩ | refine ⟨⟨_, _, rfl, rfl, .cr rfl⟩, ?_⟩ | refine ⟨⟨_, _, rfl, rfl, .rc rfl⟩, ?_⟩ | refine ⟨⟨_, _, rfl, rfl, .marks⟩, ?_⟩ | refine ⟨⟨_, _, rfl, rfl, .siter _ _⟩, ?_⟩ | refine ⟨⟨_, _, rfl, rfl, .loop rfl rfl rfl rfl (by repeat' first | exact trivial | refine ⟨rfl, ?_⟩) rfl rfl rfl rfl⟩, ?_⟩)
    clear h; intro hb h; conv => whnf
    refine br.h h ?_ ?_ ?_
    · rfl
    · clear h; intro hb h; conv => whnf
      all_goals (cases h; cases hc)
      all_goals exact Res.of [] rfl nw_0 (by decide) js_0 (wr_n wr_0)
    clear h; intro hb h; conv => whnf
    refine br.h h ?_ ?_ ?_
    · rfl
    · clear h; intro hb h; conv => whnf
      all_goals (cases h; cases hc)
      all_goals exact Res.of [] rfl nw_0 (by decide) js_0 (wr_n wr_0)
    clear h; intro hb h; conv => whnf
    refine br.h h ?_ ?_ ?_
    · rfl
    · clear h; intro hb h; conv => whnf
      all_goals (cases h; cases hc)
      all_goals exact Res.of [] rfl nw_0 (by decide) js_0 (wr_n wr_0)
    clear h; intro hb h; conv => whnf
    cases h; simp only [Sum.elim_inl, head5_1] at hc
    refine Leads.re hc [(0, 0), (3, 3), (5, 5), (6, 6), (7, 7)] rfl ?_ ?_ <;> (repeat' first | exact trivial | refine ⟨⟨_, rfl, rfl⟩, ?_⟩ | refine ⟨⟨_, _, rfl, rfl, .rowF (vI_flat _ _) id⟩, ?_⟩ | refine ⟨⟨_, _, rfl, rfl, .rowF (vS_flat _) id⟩, ?_⟩ | refine ⟨⟨_, _, rfl, rfl, .rowF (vB_flat _) id⟩, ?_⟩ | refine ⟨⟨_, _, rfl, rfl, .rowF (vT_flat (by first | exact chealth_Rule_flat | exact capi_Addr_flat | exact cR23_Step_flat | exact capi_Backend_flat | exact chealth_State_flat | exact cregistry_row_flat | exact cR23_Row_flat) _) id⟩, ?_⟩ | refine ⟨⟨_, _, rfl, rfl, .tyF (vI_flat _ _)⟩, ?_⟩ | refine ⟨⟨_, _, rfl, rfl, .ty rfl⟩, ?_⟩ | refine ⟨⟨_, _, rfl, rfl, .cells rfl⟩, ?_⟩ | refine ⟨⟨_, _, rfl, rfl, .row rfl id⟩, ?_⟩ | refine ⟨⟨_, _, rfl, rfl, .cr rfl⟩, ?_⟩ | refine ⟨⟨_, _, rfl, rfl, .rc rfl⟩, ?_⟩ | refine ⟨⟨_, _, rfl, rfl, .marks⟩, ?_⟩ | refine ⟨⟨_, _, rfl, rfl, .siter _ _⟩, ?_⟩ | refine ⟨⟨_, _, rfl, rfl, .loop rfl rfl rfl rfl (by repeat' first | exact trivial | refine ⟨rfl, ?_⟩) rfl rfl rfl rfl⟩, ?_⟩)
  clear h; intro hb h; conv => whnf
  refine br.h h ?_ ?_ ?_
  · rfl
  · clear h; intro hb h; conv => whnf
    all_goals (cases h; cases hc)
    all_goals exact Res.of [] rfl nw_0 (by decide) js_0 (wr_n wr_0)
  clear h; intro hb h; conv => whnf
  let t2 : Bool := !((xg10.1.ID == e1.ID) && ((xg10.1.Weight == e1.Weight) && ((xg10.1.State == e1.State) && ((xg10.1.Addr.V6 == e1.Addr.V6) && ((xg10.1.Addr.Hi == e1.Addr.Hi) && ((xg10.1.Addr.Lo == e1.Addr.Lo) && true))))))
  refine br.h2 h ?_ ?_ ?_
  · rfl
  · clear h; intro hb h; conv => whnf
    cases h; simp only [Sum.elim_inl, head5_1] at hc
    refine Leads.re hc [(0, 0), (3, 3), (5, 5), (6, 6), (7, 7)] rfl ?_ ?_ <;> (repeat' first | exact trivial | refine ⟨⟨_, rfl, rfl⟩, ?_⟩ | refine ⟨⟨_, _, rfl, rfl, .rowF (vI_flat _ _) id⟩, ?_⟩ | refine ⟨⟨_, _, rfl, rfl, .rowF (vS_flat _) id⟩, ?_⟩ | refine ⟨⟨_, _, rfl, rfl, .rowF (vB_flat _) id⟩, ?_⟩ | refine ⟨⟨_, _, rfl, rfl, .rowF (vT_flat (by first | exact chealth_Rule_flat | exact capi_Addr_flat | exact cR23_Step_flat | exact capi_Backend_flat | exact chealth_State_flat | exact cregistry_row_flat | exact cR23_Row_flat) _) id⟩, ?_⟩ | refine ⟨⟨_, _, rfl, rfl, .tyF (vI_flat _ _)⟩, ?_⟩ | refine ⟨⟨_, _, rfl, rfl, .ty rfl⟩, ?_⟩ | refine ⟨⟨_, _, rfl, rfl, .cells rfl⟩, ?_⟩ | refine ⟨⟨_, _, rfl, rfl, .row rfl id⟩, ?_⟩ | refine ⟨⟨_, _, rfl, rfl, .cr rfl⟩, ?_⟩ | refine ⟨⟨_, _, rfl, rfl, .rc rfl⟩, ?_⟩ | refine ⟨⟨_, _, rfl, rfl, .marks⟩, ?_⟩ | refine ⟨⟨_, _, rfl, rfl, .siter _ _⟩, ?_⟩ | refine ⟨⟨_, _, rfl, rfl, .loop rfl rfl rfl rfl (by repeat' first | exact trivial | refine ⟨rfl, ?_⟩) rfl rfl rfl rfl⟩, ?_⟩)
  clear h; intro hb h; conv => whnf
  refine br.h h ?_ ?_ ?_
  · rfl
  · clear h; intro hb h; conv => whnf
    all_goals (cases h; cases hc)
    all_goals exact Res.of [] rfl nw_0 (by decide) js_0 (wr_n wr_0)
  clear h; intro hb h; conv => whnf
  refine br.h h ?_ ?_ ?_
  · rfl
  · clear h; intro hb h; conv => whnf
    all_goals (cases h; cases hc)
    all_goals exact Res.of [] rfl nw_0 (by decide) js_0 (wr_n wr_0)
  clear h; intro hb h; conv => whnf
  refine br.h h ?_ ?_ ?_
  · rfl
  · clear h; intro hb h; conv => whnf
    all_goals (cases h; cases hc)
    all_goals exact Res.of [] rfl nw_0 (by decide) js_0 (wr_n wr_0)
  clear h; intro hb h; conv => whnf
  cases h; simp only [Sum.elim_inl, head5_1] at hc
  refine Leads.re hc [(0, 0), (3, 3), (5, 5), (6, 6), (7, 7)] rfl ?_ ?_ <;> (repeat' first | exact trivial | refine ⟨⟨_, rfl, rfl⟩, ?_⟩ | refine ⟨⟨_, _, rfl, rfl, .rowF (vI_flat _ _) id⟩, ?_⟩ | refine ⟨⟨_, _, rfl, rfl, .rowF (vS_flat _) id⟩, ?_⟩ | refine ⟨⟨_, _, rfl, rfl, .rowF (vB_flat _) id⟩, ?_⟩ | refine ⟨⟨_, _, rfl, rfl, .rowF (vT_flat (by first | exact chealth_Rule_flat | exact capi_Addr_flat | exact cR23_Step_flat | exact capi_Backend_flat | exact chealth_State_flat | exact cregistry_row_flat | exact cR23_Row_flat) _) id⟩, ?_⟩ | refine ⟨⟨_, _, rfl, rfl, .tyF (vI_flat _ _)⟩, ?_⟩ | refine ⟨⟨_, _, rfl, rfl, .ty rfl⟩, ?_⟩ | refine ⟨⟨_, _, rfl, rfl, .cells rfl⟩, ?_⟩ | refine ⟨⟨_, _, rfl, rfl, .row rfl id⟩, ?_⟩ | refine ⟨⟨_, _, rfl, rfl, .cr rfl⟩, ?_⟩ | refine ⟨⟨_, _, rfl, rfl, .rc rfl⟩, ?_⟩ | refine ⟨⟨_, _, rfl, rfl, .marks⟩, ?_⟩ | refine ⟨⟨_, _, rfl, rfl, .siter _ _⟩, ?_⟩ | refine ⟨⟨_, _, rfl, rfl, .loop rfl rfl rfl rfl (by repeat' first | exact trivial | refine ⟨rfl, ?_⟩) rfl rfl rfl rfl⟩, ?_⟩)
theorem loop5_2 (R21_Right : health_Rule → Option Bool) (health_Right : health_Rule → Option Bool) (law23_awake : Option Bool) (registry_Registry_Add : registry_Registry → Int → api_Addr → Option (Int × Int × registry_Registry)) (registry_Registry_Add_nil : Int → api_Addr → Option (Int × Int)) (registry_Registry_Drain : registry_Registry → Int → Bool → Option (Int × registry_Registry)) (registry_Registry_Get : registry_Registry → Int → Option (api_Backend × Bool)) (registry_Registry_List : registry_Registry → Option (List api_Backend)) (registry_Registry_List_nil : Option (List api_Backend)) (registry_Registry_Probe : registry_Registry → Int → Bool → Option (Bool × Int × registry_Registry)) (registry_Registry_Remove : registry_Registry → Int → Option (Int × registry_Registry)) (registry_Registry_Remove_nil : Int → Option Int) (registry_Registry_Reset : registry_Registry → Option registry_Registry) (registry_Registry_Reset_nil : Option Unit) (registry_Registry_Weight : registry_Registry → Int → Int → Option (Int × registry_Registry)) (hS : SumsOK Try.prog (aget (sums5 R21_Right health_Right law23_awake registry_Registry_Add registry_Registry_Add_nil registry_Registry_Drain registry_Registry_Get registry_Registry_List registry_Registry_List_nil registry_Registry_Probe registry_Registry_Remove registry_Registry_Remove_nil registry_Registry_Reset registry_Registry_Reset_nil registry_Registry_Weight))) (l : List R23_Step) (res : Bool) : ∀ fuel (st : Int × Int × Int × Int × Int × (List registry_row)) (o : Bool), iter (fun st => law23_RegistryOthers_s2 law23_awake registry_Registry_Add registry_Registry_Drain registry_Registry_Get registry_Registry_List registry_Registry_Probe registry_Registry_Remove registry_Registry_Reset registry_Registry_Weight l st.1 st.2.1 st.2.2.1 st.2.2.2.1 st.2.2.2.2.1 st.2.2.2.2.2) fuel st = some o → (o = res) →
    Leads Try.prog 5 1 (head5_2 l st.1 st.2.1 st.2.2.1 st.2.2.2.1 st.2.2.2.2.1 st.2.2.2.2.2) (fun v H _ => Res 1 (rx5 res) v H) := by
  intro fuel st o h hc
  refine iter_leads (head := fun st => head5_2 l st.1 st.2.1 st.2.2.1 st.2.2.2.1 st.2.2.2.2.1 st.2.2.2.2.2) (C := fun o => (o = res)) ?_ fuel st o h hc
  clear h hc o st fuel
  intro st o h hc
  obtain ⟨i, xg, xg1, xg3, xg4, c⟩ := st
  replace h : law23_RegistryOthers_s2 law23_awake registry_Registry_Add registry_Registry_Drain registry_Registry_Get registry_Registry_List registry_Registry_Probe registry_Registry_Remove registry_Registry_Reset registry_Registry_Weight l i xg xg1 xg3 xg4 c = some o := h
  show Leads Try.prog 5 1 (head5_2 l i xg xg1 xg3 xg4 c) (fun v H _ => Res 1 (rx5 res) v H)
  unfold law23_RegistryOthers_s2 at h
  refine ev_ok tab_ok hS true 3000 ?_
  conv => whnf
  refine br.h2 h ?_ ?_ ?_
  · rfl
  · clear h; intro hb h; conv => whnf
    replace h := obind.elim h; obtain ⟨a3, hy, h⟩ := h
    refine sumK.q rfl rfl (r15_eq hy) rfl rfl rfl ?_
    conv => whnf
    all_goals (cases h; cases hc)
    all_goals exact Res.of [] rfl nw_0 (by decide) js_0 (wr_n wr_0)
  clear h; intro hb h; conv => whnf
  replace h := oreq.elim h; obtain ⟨hb, h⟩ := h
  first | (refine req.intro hb ?_; conv => whnf) | skip
  replace h := obind.elim h; obtain ⟨e, hy, h⟩ := h
  refine ld_T cR23_Step_len hy (by first | omega | exact Nat.zero_add _ | exact congrArg (· + _) (Nat.zero_add _)) rfl ?_
  conv => whnf
  replace h := obind.elim h; obtain ⟨l1, hy, h⟩ := h
  refine sumK.introF [] (sumRun_of (aqs := [.pointer (some ⟨0, 0, none⟩)]) (ws := [.blk 3 false, .blk 4 false]) (n := 1) (m := 0) (t' := 7) (ra_cons (ra_tr rfl rfl (vp_at rfl rfl rfl rfl (vp_at rfl rfl (rn_T cregistry_row_flat) rfl vp_nil)) rfl) rfl ra_nil) rfl (by rfl) (r22_eq hy) rfl rfl rfl rfl (wb_skip rfl (wb_skip rfl wb_nil)) (an_cons (rn_T capi_Backend_flat) an_nil) rfl) ?_
  conv => whnf
  refine br.h h ?_ ?_ ?_
  · rfl
  · clear h; intro hb h; conv => whnf
    replace h := obind.elim h; obtain ⟨a2, hy, h⟩ := h
    refine sumK.introF [3] (sumRun_of (aqs := [.pointer (some ⟨0, 0, none⟩), .int .i64 e.N, .agg ⟨[.bool e.Addr.V6, .int .u64 e.Addr.Hi, .int .u64 e.Addr.Lo]⟩]) (ws := [.blk 3 true, .blk 4 true]) (n := 1) (m := 0) (t' := 8) (ra_cons (ra_tr rfl rfl (vp_at rfl rfl rfl rfl (vp_at rfl rfl (rn_T cregistry_row_flat) rfl vp_nil)) rfl) rfl (ra_cons rfl rfl (ra_cons rfl rfl ra_nil))) rfl (by rfl) (r26_eq hy) rfl rfl rfl rfl (wb_blk rfl rfl rfl rfl (wb_del wb_nil)) (an_cons (rn_T cregistry_row_flat) an_nil) rfl) ?_
    conv => whnf
    refine br.h h ?_ ?_ ?_
    · rfl
    · clear h; intro hb h; conv => whnf
      replace h := obind.elim h; obtain ⟨l2, hy, h⟩ := h
      refine sumK.introF [] (sumRun_of (aqs := [.pointer (some ⟨0, 0, none⟩)]) (ws := [.blk 3 false, .blk 7 false]) (n := 1) (m := 0) (t' := 9) (ra_cons (ra_tr rfl rfl (vp_at rfl rfl rfl rfl (vp_at rfl rfl (rn_T cregistry_row_flat) rfl vp_nil)) rfl) rfl ra_nil) rfl (by rfl) (r22_eq hy) rfl rfl rfl rfl (wb_skip rfl (wb_skip rfl wb_nil)) (an_cons (rn_T capi_Backend_flat) an_nil) rfl) ?_
      conv => whnf
      let t : Bool := (l2.length : Int) != (wI .i64 ((l1.length : Int) + 1))
      refine br.h h ?_ ?_ ?_
      · rfl
      · clear h; intro hb h; conv => whnf
        all_goals (cases h; cases hc)
        all_goals exact Res.of [] rfl nw_0 (by decide) js_0 (wr_n wr_0)
      clear h; intro hb h; conv => whnf
      have hl := loop5_1 R21_Right health_Right law23_awake registry_Registry_Add registry_Registry_Add_nil registry_Registry_Drain registry_Registry_Get registry_Registry_List registry_Registry_List_nil registry_Registry_Probe registry_Registry_Remove registry_Registry_Remove_nil registry_Registry_Reset registry_Registry_Reset_nil registry_Registry_Weight hS _ _ _ _ res _ _ _ h hc; simp only [head5_1] at hl
      refine Leads.re hl [(0, 0), (3, 3), (5, 5), (6, 6), (7, 7)] rfl ?_ ?_ <;> (repeat' first | exact trivial | refine ⟨⟨_, rfl, rfl⟩, ?_⟩ | refine ⟨⟨_, _, rfl, rfl, .rowF (vI_flat _ _) id⟩, ?_⟩ | refine ⟨⟨_, _, rfl, rfl, .rowF (vS_flat _) id⟩, ?_⟩ | refine ⟨⟨_, _, rfl, rfl, .rowF (vB_flat _) id⟩, ?_⟩ | refine ⟨⟨_, _, rfl, rfl, .rowF (vT_flat (by first | exact chealth_Rule_flat | exact capi_Addr_flat | exact cR23_Step_flat | exact capi_Backend_flat | exact chealth_State_flat | exact cregistry_row_flat | exact cR23_Row_flat) _) id⟩, ?_⟩ | refine ⟨⟨_, _, rfl, rfl, .tyF (vI_flat _ _)⟩, ?_⟩ | refine ⟨⟨_, _, rfl, rfl, .ty rfl⟩, ?_⟩ | refine ⟨⟨_, _, rfl, rfl, .cells rfl⟩, ?_⟩ | refine ⟨⟨_, _, rfl, rfl, .row rfl id⟩, ?_⟩ | refine ⟨⟨_, _, rfl, rfl, .cr rfl⟩, ?_⟩ | refine ⟨⟨_, _, rfl, rfl, .rc rfl⟩, ?_⟩ | refine ⟨⟨_, _, rfl, rfl, .marks⟩, ?_⟩ | refine ⟨⟨_, _, rfl, rfl, .siter _ _⟩, ?_⟩ | refine ⟨⟨_, _, rfl, rfl, .loop rfl rfl rfl rfl (by repeat' first | exact trivial | refine ⟨rfl, ?_⟩) rfl rfl rfl rfl⟩, ?_⟩)
    clear h; intro hb h; conv => whnf
    replace h := obind.elim h; obtain ⟨l3, hy, h⟩ := h
    refine sumK.introF [] (sumRun_of (aqs := [.pointer (some ⟨0, 0, none⟩)]) (ws := [.blk 3 false, .blk 7 false]) (n := 1) (m := 0) (t' := 9) (ra_cons (ra_tr rfl rfl (vp_at rfl rfl rfl rfl (vp_at rfl rfl (rn_T cregistry_row_flat) rfl vp_nil)) rfl) rfl ra_nil) rfl (by rfl) (r22_eq hy) rfl rfl rfl rfl (wb_skip rfl (wb_skip rfl wb_nil)) (an_cons (rn_T capi_Backend_flat) an_nil) rfl) ?_
    conv => whnf
    let t4 : Bool := (l3.length : Int) != (wI .i64 ((l1.length : Int) + 0))
    refine br.h h ?_ ?_ ?_
    · rfl
    · clear h; intro hb h; conv => whnf
      all_goals (cases h; cases hc)
      all_goals exact Res.of [] rfl nw_0 (by decide) js_0 (wr_n wr_0)
    clear h; intro hb h; conv => whnf
    have hl := loop5_1 R21_Right health_Right law23_awake registry_Registry_Add registry_Registry_Add_nil registry_Registry_Drain registry_Registry_Get registry_Registry_List registry_Registry_List_nil registry_Registry_Probe registry_Registry_Remove registry_Registry_Remove_nil registry_Registry_Reset registry_Registry_Reset_nil registry_Registry_Weight hS _ _ _ _ res _ _ _ h hc; simp only [head5_1] at hl
    refine Leads.re hl [(0, 0), (3, 3), (5, 5), (6, 6), (7, 7)] rfl ?_ ?_ <;> (repeat' first | exact trivial | refine ⟨⟨_, rfl, rfl⟩, ?_⟩ | refine ⟨⟨_, _, rfl, rfl, .rowF (vI_flat _ _) id⟩, ?_⟩ | refine ⟨⟨_, _, rfl, rfl, .rowF (vS_flat _) id⟩, ?_⟩ | refine ⟨⟨_, _, rfl, rfl, .rowF (vB_flat _) id⟩, ?_⟩ | refine ⟨⟨_, _, rfl, rfl, .rowF (vT_flat (by first | exact chealth_Rule_flat | exact capi_Addr_flat | exact cR23_Step_flat | exact capi_Backend_flat | exact chealth_State_flat | exact cregistry_row_flat | exact cR23_Row_flat) _) id⟩, ?_⟩ | refine ⟨⟨_, _, rfl, rfl, .tyF (vI_flat _ _)⟩, ?_⟩ | refine ⟨⟨_, _, rfl, rfl, .ty rfl⟩, ?_⟩ | refine ⟨⟨_, _, rfl, rfl, .cells rfl⟩, ?_⟩ | refine ⟨⟨_, _, rfl, rfl, .row rfl id⟩, ?_⟩ | refine ⟨⟨_, _, rfl, rfl, .cr rfl⟩, ?_⟩ | refine ⟨⟨_, _, rfl, rfl, .rc rfl⟩, ?_⟩ | refine ⟨⟨_, _, rfl, rfl, .marks⟩, ?_⟩ | refine ⟨⟨_, _, rfl, rfl, .siter _ _⟩, ?_⟩ | refine ⟨⟨_, _, rfl, rfl, .loop rfl rfl rfl rfl (by repeat' first | exact trivial | refine ⟨rfl, ?_⟩) rfl rfl rfl rfl⟩, ?_⟩)
  clear h; intro hb h; conv => whnf
  refine br.h h ?_ ?_ ?_
  · rfl
  · clear h; intro hb h; conv => whnf
    replace h := obind.elim h; obtain ⟨xr2, hy, h⟩ := h
    refine sumK.introF [3] (sumRun_of (aqs := [.pointer (some ⟨0, 0, none⟩), .int .i64 e.ID]) (ws := [.blk 3 true, .blk 4 true]) (n := 1) (m := 0) (t' := 8) (ra_cons (ra_tr rfl rfl (vp_at rfl rfl rfl rfl (vp_at rfl rfl (rn_T cregistry_row_flat) rfl vp_nil)) rfl) rfl (ra_cons rfl rfl ra_nil)) rfl (by rfl) (r27_eq hy) rfl rfl rfl rfl (wb_blk rfl rfl rfl rfl (wb_del wb_nil)) (an_cons (rn_T cregistry_row_flat) an_nil) rfl) ?_
    conv => whnf
    refine br.h h ?_ ?_ ?_
    · rfl
    · clear h; intro hb h; conv => whnf
      replace h := obind.elim h; obtain ⟨l4, hy, h⟩ := h
      refine sumK.introF [] (sumRun_of (aqs := [.pointer (some ⟨0, 0, none⟩)]) (ws := [.blk 3 false, .blk 7 false]) (n := 1) (m := 0) (t' := 9) (ra_cons (ra_tr rfl rfl (vp_at rfl rfl rfl rfl (vp_at rfl rfl (rn_T cregistry_row_flat) rfl vp_nil)) rfl) rfl ra_nil) rfl (by rfl) (r22_eq hy) rfl rfl rfl rfl (wb_skip rfl (wb_skip rfl wb_nil)) (an_cons (rn_T capi_Backend_flat) an_nil) rfl) ?_
      conv => whnf
      let t5 : Bool := (l4.length : Int) != (wI .i64 ((l1.length : Int) + (-1)))
      refine br.h h ?_ ?_ ?_
      · rfl
      · clear h; intro hb h; conv => whnf
        all_goals (cases h; cases hc)
        all_goals exact Res.of [] rfl nw_0 (by decide) js_0 (wr_n wr_0)
      clear h; intro hb h; conv => whnf
      have hl := loop5_1 R21_Right health_Right law23_awake registry_Registry_Add registry_Registry_Add_nil registry_Registry_Drain registry_Registry_Get registry_Registry_List registry_Registry_List_nil registry_Registry_Probe registry_Registry_Remove registry_Registry_Remove_nil registry_Registry_Reset registry_Registry_Reset_nil registry_Registry_Weight hS _ _ _ _ res _ _ _ h hc; simp only [head5_1] at hl
      refine Leads.re hl [(0, 0), (3, 3), (5, 5), (6, 6), (7, 7)] rfl ?_ ?_ <;> (repeat' first | exact trivial | refine ⟨⟨_, rfl, rfl⟩, ?_⟩ | refine ⟨⟨_, _, rfl, rfl, .rowF (vI_flat _ _) id⟩, ?_⟩ | refine ⟨⟨_, _, rfl, rfl, .rowF (vS_flat _) id⟩, ?_⟩ | refine ⟨⟨_, _, rfl, rfl, .rowF (vB_flat _) id⟩, ?_⟩ | refine ⟨⟨_, _, rfl, rfl, .rowF (vT_flat (by first | exact chealth_Rule_flat | exact capi_Addr_flat | exact cR23_Step_flat | exact capi_Backend_flat | exact chealth_State_flat | exact cregistry_row_flat | exact cR23_Row_flat) _) id⟩, ?_⟩ | refine ⟨⟨_, _, rfl, rfl, .tyF (vI_flat _ _)⟩, ?_⟩ | refine ⟨⟨_, _, rfl, rfl, .ty rfl⟩, ?_⟩ | refine ⟨⟨_, _, rfl, rfl, .cells rfl⟩, ?_⟩ | refine ⟨⟨_, _, rfl, rfl, .row rfl id⟩, ?_⟩ | refine ⟨⟨_, _, rfl, rfl, .cr rfl⟩, ?_⟩ | refine ⟨⟨_, _, rfl, rfl, .rc rfl⟩, ?_⟩ | refine ⟨⟨_, _, rfl, rfl, .marks⟩, ?_⟩ | refine ⟨⟨_, _, rfl, rfl, .siter _ _⟩, ?_⟩ | refine ⟨⟨_, _, rfl, rfl, .loop rfl rfl rfl rfl (by repeat' first | exact trivial | refine ⟨rfl, ?_⟩) rfl rfl rfl rfl⟩, ?_⟩)
    clear h; intro hb h; conv => whnf
    replace h := obind.elim h; obtain ⟨l5, hy, h⟩ := h
    refine sumK.introF [] (sumRun_of (aqs := [.pointer (some ⟨0, 0, none⟩)]) (ws := [.blk 3 false, .blk 7 false]) (n := 1) (m := 0) (t' := 9) (ra_cons (ra_tr rfl rfl (vp_at rfl rfl rfl rfl (vp_at rfl rfl (rn_T cregistry_row_flat) rfl vp_nil)) rfl) rfl ra_nil) rfl (by rfl) (r22_eq hy) rfl rfl rfl rfl (wb_skip rfl (wb_skip rfl wb_nil)) (an_cons (rn_T capi_Backend_flat) an_nil) rfl) ?_
    conv => whnf
    let t6 : Bool := (l5.length : Int) != (wI .i64 ((l1.length : Int) + 0))
    refine br.h h ?_ ?_ ?_
    · rfl
    · clear h; intro hb h; conv => whnf
      all_goals (cases h; cases hc)
      all_goals exact Res.of [] rfl nw_0 (by decide) js_0 (wr_n wr_0)
    clear h; intro hb h; conv => whnf
    have hl := loop5_1 R21_Right health_Right law23_awake registry_Registry_Add registry_Registry_Add_nil registry_Registry_Drain registry_Registry_Get registry_Registry_List registry_Registry_List_nil registry_Registry_Probe registry_Registry_Remove registry_Registry_Remove_nil registry_Registry_Reset registry_Registry_Reset_nil registry_Registry_Weight hS _ _ _ _ res _ _ _ h hc; simp only [head5_1] at hl
    refine Leads.re hl [(0, 0), (3, 3), (5, 5), (6, 6), (7, 7)] rfl ?_ ?_ <;> (repeat' first | exact trivial | refine ⟨⟨_, rfl, rfl⟩, ?_⟩ | refine ⟨⟨_, _, rfl, rfl, .rowF (vI_flat _ _) id⟩, ?_⟩ | refine ⟨⟨_, _, rfl, rfl, .rowF (vS_flat _) id⟩, ?_⟩ | refine ⟨⟨_, _, rfl, rfl, .rowF (vB_flat _) id⟩, ?_⟩ | refine ⟨⟨_, _, rfl, rfl, .rowF (vT_flat (by first | exact chealth_Rule_flat | exact capi_Addr_flat | exact cR23_Step_flat | exact capi_Backend_flat | exact chealth_State_flat | exact cregistry_row_flat | exact cR23_Row_flat) _) id⟩, ?_⟩ | refine ⟨⟨_, _, rfl, rfl, .tyF (vI_flat _ _)⟩, ?_⟩ | refine ⟨⟨_, _, rfl, rfl, .ty rfl⟩, ?_⟩ | refine ⟨⟨_, _, rfl, rfl, .cells rfl⟩, ?_⟩ | refine ⟨⟨_, _, rfl, rfl, .row rfl id⟩, ?_⟩ | refine ⟨⟨_, _, rfl, rfl, .cr rfl⟩, ?_⟩ | refine ⟨⟨_, _, rfl, rfl, .rc rfl⟩, ?_⟩ | refine ⟨⟨_, _, rfl, rfl, .marks⟩, ?_⟩ | refine ⟨⟨_, _, rfl, rfl, .siter _ _⟩, ?_⟩ | refine ⟨⟨_, _, rfl, rfl, .loop rfl rfl rfl rfl (by repeat' first | exact trivial | refine ⟨rfl, ?_⟩) rfl rfl rfl rfl⟩, ?_⟩)
  clear h; intro hb h; conv => whnf
  refine br.h h ?_ ?_ ?_
  · rfl
  · clear h; intro hb h; conv => whnf
    replace h := obind.elim h; obtain ⟨d, hy, h⟩ := h
    refine sumK.introF [3] (sumRun_of (aqs := [.pointer (some ⟨0, 0, none⟩), .int .i64 e.ID, .bool e.On]) (ws := [.blk 3 true, .blk 4 true]) (n := 1) (m := 0) (t' := 8) (ra_cons (ra_tr rfl rfl (vp_at rfl rfl rfl rfl (vp_at rfl rfl (rn_T cregistry_row_flat) rfl vp_nil)) rfl) rfl (ra_cons rfl rfl (ra_cons rfl rfl ra_nil))) rfl (by rfl) (r28_eq hy) rfl rfl rfl rfl (wb_blk rfl rfl rfl rfl (wb_del wb_nil)) (an_cons (rn_T cregistry_row_flat) an_nil) rfl) ?_
    conv => whnf
    replace h := obind.elim h; obtain ⟨l6, hy, h⟩ := h
    refine sumK.introF [] (sumRun_of (aqs := [.pointer (some ⟨0, 0, none⟩)]) (ws := [.blk 3 false, .blk 7 false]) (n := 1) (m := 0) (t' := 9) (ra_cons (ra_tr rfl rfl (vp_at rfl rfl rfl rfl (vp_at rfl rfl (rn_T cregistry_row_flat) rfl vp_nil)) rfl) rfl ra_nil) rfl (by rfl) (r22_eq hy) rfl rfl rfl rfl (wb_skip rfl (wb_skip rfl wb_nil)) (an_cons (rn_T capi_Backend_flat) an_nil) rfl) ?_
    conv => whnf
    let t7 : Bool := (l6.length : Int) != (wI .i64 ((l1.length : Int) + 0))
    refine br.h h ?_ ?_ ?_
    · rfl
    · clear h; intro hb h; conv => whnf
      all_goals (cases h; cases hc)
      all_goals exact Res.of [] rfl nw_0 (by decide) js_0 (wr_n wr_0)
    clear h; intro hb h; conv => whnf
    have hl := loop5_1 R21_Right health_Right law23_awake registry_Registry_Add registry_Registry_Add_nil registry_Registry_Drain registry_Registry_Get registry_Registry_List registry_Registry_List_nil registry_Registry_Probe registry_Registry_Remove registry_Registry_Remove_nil registry_Registry_Reset registry_Registry_Reset_nil registry_Registry_Weight hS _ _ _ _ res _ _ _ h hc; simp only [head5_1] at hl
    refine Leads.re hl [(0, 0), (3, 3), (5, 5), (6, 6), (7, 7)] rfl ?_ ?_ <;> (repeat' first | exact trivial | refine ⟨⟨_, rfl, rfl⟩, ?_⟩ | refine ⟨⟨_, _, rfl, rfl, .rowF (vI_flat _ _) id⟩, ?_⟩ | refine ⟨⟨_, _, rfl, rfl, .rowF (vS_flat _) id⟩, ?_⟩ | refine ⟨⟨_, _, rfl, rfl, .rowF (vB_flat _) id⟩, ?_⟩ | refine ⟨⟨_, _, rfl, rfl, .rowF (vT_flat (by first | exact chealth_Rule_flat | exact capi_Addr_flat | exact cR23_Step_flat | exact capi_Backend_flat | exact chealth_State_flat | exact cregistry_row_flat | exact cR23_Row_flat) _) id⟩, ?_⟩ | refine ⟨⟨_, _, rfl, rfl, .tyF (vI_flat _ _)⟩, ?_⟩ | refine ⟨⟨_, _, rfl, rfl, .ty rfl⟩, ?_⟩ | refine ⟨⟨_, _, rfl, rfl, .cells rfl⟩, ?_⟩ | refine ⟨⟨_, _, rfl, rfl, .row rfl id⟩, ?_⟩ | refine ⟨⟨_, _, rfl, rfl, .cr rfl⟩, ?_⟩ | refine ⟨⟨_, _, rfl, rfl, .rc rfl⟩, ?_⟩ | refine ⟨⟨_, _, rfl, rfl, .marks⟩, ?_⟩ | refine ⟨⟨_, _, rfl, rfl, .siter _ _⟩, ?_⟩ | refine ⟨⟨_, _, rfl, rfl, .loop rfl rfl rfl rfl (by repeat' first | exact trivial | refine ⟨rfl, ?_⟩) rfl rfl rfl rfl⟩, ?_⟩)
  clear h; intro hb h; conv => whnf
  refine br.h h ?_ ?_ ?_
  · rfl
  · clear h; intro hb h; conv => whnf
    replace h := obind.elim h; obtain ⟨w, hy, h⟩ := h
    refine sumK.introF [3] (sumRun_of (aqs := [.pointer (some ⟨0, 0, none⟩), .int .i64 e.ID, .int .i64 e.N]) (ws := [.blk 3 true, .blk 4 true]) (n := 1) (m := 0) (t' := 8) (ra_cons (ra_tr rfl rfl (vp_at rfl rfl rfl rfl (vp_at rfl rfl (rn_T cregistry_row_flat) rfl vp_nil)) rfl) rfl (ra_cons rfl rfl (ra_cons rfl rfl ra_nil))) rfl (by rfl) (r29_eq hy) rfl rfl rfl rfl (wb_blk rfl rfl rfl rfl (wb_del wb_nil)) (an_cons (rn_T cregistry_row_flat) an_nil) rfl) ?_
    conv => whnf
    replace h := obind.elim h; obtain ⟨l7, hy, h⟩ := h
    refine sumK.introF [] (sumRun_of (aqs := [.pointer (some ⟨0, 0, none⟩)]) (ws := [.blk 3 false, .blk 7 false]) (n := 1) (m := 0) (t' := 9) (ra_cons (ra_tr rfl rfl (vp_at rfl rfl rfl rfl (vp_at rfl rfl (rn_T cregistry_row_flat) rfl vp_nil)) rfl) rfl ra_nil) rfl (by rfl) (r22_eq hy) rfl rfl rfl rfl (wb_skip rfl (wb_skip rfl wb_nil)) (an_cons (rn_T capi_Backend_flat) an_nil) rfl) ?_
    conv => whnf
    let t8 : Bool := (l7.length : Int) != (wI .i64 ((l1.length : Int) + 0))
    refine br.h h ?_ ?_ ?_
    · rfl
    · clear h; intro hb h; conv => whnf
      all_goals (cases h; cases hc)
      all_goals exact Res.of [] rfl nw_0 (by decide) js_0 (wr_n wr_0)
    clear h; intro hb h; conv => whnf
    have hl := loop5_1 R21_Right health_Right law23_awake registry_Registry_Add registry_Registry_Add_nil registry_Registry_Drain registry_Registry_Get registry_Registry_List registry_Registry_List_nil registry_Registry_Probe registry_Registry_Remove registry_Registry_Remove_nil registry_Registry_Reset registry_Registry_Reset_nil registry_Registry_Weight hS _ _ _ _ res _ _ _ h hc; simp only [head5_1] at hl
    refine Leads.re hl [(0, 0), (3, 3), (5, 5), (6, 6), (7, 7)] rfl ?_ ?_ <;> (repeat' first | exact trivial | refine ⟨⟨_, rfl, rfl⟩, ?_⟩ | refine ⟨⟨_, _, rfl, rfl, .rowF (vI_flat _ _) id⟩, ?_⟩ | refine ⟨⟨_, _, rfl, rfl, .rowF (vS_flat _) id⟩, ?_⟩ | refine ⟨⟨_, _, rfl, rfl, .rowF (vB_flat _) id⟩, ?_⟩ | refine ⟨⟨_, _, rfl, rfl, .rowF (vT_flat (by first | exact chealth_Rule_flat | exact capi_Addr_flat | exact cR23_Step_flat | exact capi_Backend_flat | exact chealth_State_flat | exact cregistry_row_flat | exact cR23_Row_flat) _) id⟩, ?_⟩ | refine ⟨⟨_, _, rfl, rfl, .tyF (vI_flat _ _)⟩, ?_⟩ | refine ⟨⟨_, _, rfl, rfl, .ty rfl⟩, ?_⟩ | refine ⟨⟨_, _, rfl, rfl, .cells rfl⟩, ?_⟩ | refine ⟨⟨_, _, rfl, rfl, .row rfl id⟩, ?_⟩ | refine ⟨⟨_, _, rfl, rfl, .cr rfl⟩, ?_⟩ | refine ⟨⟨_, _, rfl, rfl, .rc rfl⟩, ?_⟩ | refine ⟨⟨_, _, rfl, rfl, .marks⟩, ?_⟩ | refine ⟨⟨_, _, rfl, rfl, .siter _ _⟩, ?_⟩ | refine ⟨⟨_, _, rfl, rfl, .loop rfl rfl rfl rfl (by repeat' first | exact trivial | refine ⟨rfl, ?_⟩) rfl rfl rfl rfl⟩, ?_⟩)
  clear h; intro hb h; conv => whnf
  refine br.h h ?_ ?_ ?_
  · rfl
  · clear h; intro hb h; conv => whnf
    replace h := obind.elim h; obtain ⟨p, hy, h⟩ := h
    refine sumK.introF [3] (sumRun_of (aqs := [.pointer (some ⟨0, 0, none⟩), .int .i64 e.ID, .bool e.On]) (ws := [.blk 3 true, .blk 4 true]) (n := 1) (m := 0) (t' := 8) (ra_cons (ra_tr rfl rfl (vp_at rfl rfl rfl rfl (vp_at rfl rfl (rn_T cregistry_row_flat) rfl vp_nil)) rfl) rfl (ra_cons rfl rfl (ra_cons rfl rfl ra_nil))) rfl (by rfl) (r30_eq hy) rfl rfl rfl rfl (wb_blk rfl rfl rfl rfl (wb_del wb_nil)) (an_cons (rn_T cregistry_row_flat) an_nil) rfl) ?_
    conv => whnf
    replace h := obind.elim h; obtain ⟨l8, hy, h⟩ := h
    refine sumK.introF [] (sumRun_of (aqs := [.pointer (some ⟨0, 0, none⟩)]) (ws := [.blk 3 false, .blk 7 false]) (n := 1) (m := 0) (t' := 9) (ra_cons (ra_tr rfl rfl (vp_at rfl rfl rfl rfl (vp_at rfl rfl (rn_T cregistry_row_flat) rfl vp_nil)) rfl) rfl ra_nil) rfl (by rfl) (r22_eq hy) rfl rfl rfl rfl (wb_skip rfl (wb_skip rfl wb_nil)) (an_cons (rn_T capi_Backend_flat) an_nil) rfl) ?_
    conv => whnf
    let t9 : Bool := (l8.length : Int) != (wI .i64 ((l1.length : Int) + 0))
    refine br.h h ?_ ?_ ?_
    · rfl
    · clear h; intro hb h; conv => whnf
      all_goals (cases h; cases hc)
      all_goals exact Res.of [] rfl nw_0 (by decide) js_0 (wr_n wr_0)
    clear h; intro hb h; conv => whnf
    have hl := loop5_1 R21_Right health_Right law23_awake registry_Registry_Add registry_Registry_Add_nil registry_Registry_Drain registry_Registry_Get registry_Registry_List registry_Registry_List_nil registry_Registry_Probe registry_Registry_Remove registry_Registry_Remove_nil registry_Registry_Reset registry_Registry_Reset_nil registry_Registry_Weight hS _ _ _ _ res _ _ _ h hc; simp only [head5_1] at hl
    refine Leads.re hl [(0, 0), (3, 3), (5, 5), (6, 6), (7, 7)] rfl ?_ ?_ <;> (repeat' first | exact trivial | refine ⟨⟨_, rfl, rfl⟩, ?_⟩ | refine ⟨⟨_, _, rfl, rfl, .rowF (vI_flat _ _) id⟩, ?_⟩ | refine ⟨⟨_, _, rfl, rfl, .rowF (vS_flat _) id⟩, ?_⟩ | refine ⟨⟨_, _, rfl, rfl, .rowF (vB_flat _) id⟩, ?_⟩ | refine ⟨⟨_, _, rfl, rfl, .rowF (vT_flat (by first | exact chealth_Rule_flat | exact capi_Addr_flat | exact cR23_Step_flat | exact capi_Backend_flat | exact chealth_State_flat | exact cregistry_row_flat | exact cR23_Row_flat) _) id⟩, ?_⟩ | refine ⟨⟨_, _, rfl, rfl, .tyF (vI_flat _ _)⟩, ?_⟩ | refine ⟨⟨_, _, rfl, rfl, .ty rfl⟩, ?_⟩ | refine ⟨⟨_, _, rfl, rfl, .cells rfl⟩, ?_⟩ | refine ⟨⟨_, _, rfl, rfl, .row rfl id⟩, ?_⟩ | refine ⟨⟨_, _, rfl, rfl, .cr rfl⟩, ?_⟩ | refine ⟨⟨_, _, rfl, rfl, .rc rfl⟩, ?_⟩ | refine ⟨⟨_, _, rfl, rfl, .marks⟩, ?_⟩ | refine ⟨⟨_, _, rfl, rfl, .siter _ _⟩, ?_⟩ | refine ⟨⟨_, _, rfl, rfl, .loop rfl rfl rfl rfl (by repeat' first | exact trivial | refine ⟨rfl, ?_⟩) rfl rfl rfl rfl⟩, ?_⟩)
  clear h; intro hb h; conv => whnf
  refine br.h2 h ?_ ?_ ?_
  · rfl
  · clear h; intro hb h; conv => whnf
    replace h := obind.elim h; obtain ⟨l10, hy, h⟩ := h
    refine sumK.introF [] (sumRun_of (aqs := [.pointer (some ⟨0, 0, none⟩)]) (ws := [.blk 3 false, .blk 4 false]) (n := 1) (m := 0) (t' := 8) (ra_cons (ra_tr rfl rfl (vp_at rfl rfl rfl rfl (vp_at rfl rfl (rn_T cregistry_row_flat) rfl vp_nil)) rfl) rfl ra_nil) rfl (by rfl) (r22_eq hy) rfl rfl rfl rfl (wb_skip rfl (wb_skip rfl wb_nil)) (an_cons (rn_T capi_Backend_flat) an_nil) rfl) ?_
    conv => whnf
    let t11 : Bool := (l10.length : Int) != (wI .i64 ((l1.length : Int) + 0))
    refine br.h h ?_ ?_ ?_
    · rfl
    · clear h; intro hb h; conv => whnf
      all_goals (cases h; cases hc)
      all_goals exact Res.of [] rfl nw_0 (by decide) js_0 (wr_n wr_0)
    clear h; intro hb h; conv => whnf
    have hl := loop5_1 R21_Right health_Right law23_awake registry_Registry_Add registry_Registry_Add_nil registry_Registry_Drain registry_Registry_Get registry_Registry_List registry_Registry_List_nil registry_Registry_Probe registry_Registry_Remove registry_Registry_Remove_nil registry_Registry_Reset registry_Registry_Reset_nil registry_Registry_Weight hS _ _ _ _ res _ _ _ h hc; simp only [head5_1] at hl
    refine Leads.re hl [(0, 0), (3, 3), (5, 5), (6, 6), (7, 4)] rfl ?_ ?_ <;> (repeat' first | exact trivial | refine ⟨⟨_, rfl, rfl⟩, ?_⟩ | refine ⟨⟨_, _, rfl, rfl, .rowF (vI_flat _ _) id⟩, ?_⟩ | refine ⟨⟨_, _, rfl, rfl, .rowF (vS_flat _) id⟩, ?_⟩ | refine ⟨⟨_, _, rfl, rfl, .rowF (vB_flat _) id⟩, ?_⟩ | refine ⟨⟨_, _, rfl, rfl, .rowF (vT_flat (by first | exact chealth_Rule_flat | exact capi_Addr_flat | exact cR23_Step_flat | exact capi_Backend_flat | exact chealth_State_flat | exact cregistry_row_flat | exact cR23_Row_flat) _) id⟩, ?_⟩ | refine ⟨⟨_, _, rfl, rfl, .tyF (vI_flat _ _)⟩, ?_⟩ | refine ⟨⟨_, _, rfl, rfl, .ty rfl⟩, ?_⟩ | refine ⟨⟨_, _, rfl, rfl, .cells rfl⟩, ?_⟩ | refine ⟨⟨_, _, rfl, rfl, .row rfl id⟩, ?_⟩ | refine ⟨⟨_, _, rfl, rfl, .cr rfl⟩, ?_⟩ | refine ⟨⟨_, _, rfl, rfl, .rc rfl⟩, ?_⟩ | refine ⟨⟨_, _, rfl, rfl, .marks⟩, ?_⟩ | refine ⟨⟨_, _, rfl, rfl, .siter _ _⟩, ?_⟩ | refine ⟨⟨_, _, rfl, rfl, .loop rfl rfl rfl rfl (by repeat' first | exact trivial | refine ⟨rfl, ?_⟩) rfl rfl rfl rfl⟩, ?_⟩)
  clear h; intro hb h; conv => whnf
  replace h := obind.elim h; obtain ⟨xr3, hy, h⟩ := h
  refine sumK.introF [3] (sumRun_of (aqs := [.pointer (some ⟨0, 0, none⟩)]) (ws := [.blk 3 true, .blk 4 true]) (n := 1) (m := 0) (t' := 8) (ra_cons (ra_tr rfl rfl (vp_at rfl rfl rfl rfl (vp_at rfl rfl (rn_T cregistry_row_flat) rfl vp_nil)) rfl) rfl ra_nil) rfl (by rfl) (r31_eq hy) rfl rfl rfl rfl (wb_blk rfl rfl rfl rfl (wb_del wb_nil)) (an_cons (rn_T cregistry_row_flat) an_nil) rfl) ?_
  conv => whnf
  replace h := obind.elim h; obtain ⟨l9, hy, h⟩ := h
  refine sumK.introF [] (sumRun_of (aqs := [.pointer (some ⟨0, 0, none⟩)]) (ws := [.blk 3 false, .blk 7 false]) (n := 1) (m := 0) (t' := 9) (ra_cons (ra_tr rfl rfl (vp_at rfl rfl rfl rfl (vp_at rfl rfl (rn_T cregistry_row_flat) rfl vp_nil)) rfl) rfl ra_nil) rfl (by rfl) (r22_eq hy) rfl rfl rfl rfl (wb_skip rfl (wb_skip rfl wb_nil)) (an_cons (rn_T capi_Backend_flat) an_nil) rfl) ?_
  conv => whnf
  let t10 : Bool := (l9.length : Int) != (wI .i64 ((l1.length : Int) + 0))
  refine br.h h ?_ ?_ ?_
  · rfl
  · clear h; intro hb h; conv => whnf
    all_goals (cases h; cases hc)
    all_goals exact Res.of [] rfl nw_0 (by decide) js_0 (wr_n wr_0)
  clear h; intro hb h; conv => whnf
  have hl := loop5_1 R21_Right health_Right law23_awake registry_Registry_Add registry_Registry_Add_nil registry_Registry_Drain registry_Registry_Get registry_Registry_List registry_Registry_List_nil registry_Registry_Probe registry_Registry_Remove registry_Registry_Remove_nil registry_Registry_Reset registry_Registry_Reset_nil registry_Registry_Weight hS _ _ _ _ res _ _ _ h hc; simp only [head5_1] at hl
  refine Leads.re hl [(0, 0), (3, 3), (5, 5), (6, 6), (7, 7)] rfl ?_ ?_ <;> (repeat' first | exact trivial | refine ⟨⟨_, rfl, rfl⟩, ?_⟩ | refine ⟨⟨_, _, rfl, rfl, .rowF (vI_flat _ _) id⟩, ?_⟩ | refine ⟨⟨_, _, rfl, rfl, .rowF (vS_flat _) id⟩, ?_⟩ | refine ⟨⟨_, _, rfl, rfl, .rowF (vB_flat _) id⟩, ?_⟩ | refine ⟨⟨_, _, rfl, rfl, .rowF (vT_flat (by first | exact chealth_Rule_flat | exact capi_Addr_flat | exact cR23_Step_flat | exact capi_Backend_flat | exact chealth_State_flat | exact cregistry_row_flat | exact cR23_Row_flat) _) id⟩, ?_⟩ | refine ⟨⟨_, _, rfl, rfl, .tyF (vI_flat _ _)⟩, ?_⟩ | refine ⟨⟨_, _, rfl, rfl, .ty rfl⟩, ?_⟩ | refine ⟨⟨_, _, rfl, rfl, .cells rfl⟩, ?_⟩ | refine ⟨⟨_, _, rfl, rfl, .row rfl id⟩, ?_⟩ | refine ⟨⟨_, _, rfl, rfl, .cr rfl⟩, ?_⟩ | refine ⟨⟨_, _, rfl, rfl, .rc rfl⟩, ?_⟩ | refine ⟨⟨_, _, rfl, rfl, .marks⟩, ?_⟩ | refine ⟨⟨_, _, rfl, rfl, .siter _ _⟩, ?_⟩ | refine ⟨⟨_, _, rfl, rfl, .loop rfl rfl rfl rfl (by repeat' first | exact trivial | refine ⟨rfl, ?_⟩) rfl rfl rfl rfl⟩, ?_⟩)
theorem leads5 (R21_Right : health_Rule → Option Bool) (health_Right : health_Rule → Option Bool) (law23_awake : Option Bool) (registry_Registry_Add : registry_Registry → Int → api_Addr → Option (Int × Int × registry_Registry)) (registry_Registry_Add_nil : Int → api_Addr → Option (Int × Int)) (registry_Registry_Drain : registry_Registry → Int → Bool → Option (Int × registry_Registry)) (registry_Registry_Get : registry_Registry → Int → Option (api_Backend × Bool)) (registry_Registry_List : registry_Registry → Option (List api_Backend)) (registry_Registry_List_nil : Option (List api_Backend)) (registry_Registry_Probe : registry_Registry → Int → Bool → Option (Bool × Int × registry_Registry)) (registry_Registry_Remove : registry_Registry → Int → Option (Int × registry_Registry)) (registry_Registry_Remove_nil : Int → Option Int) (registry_Registry_Reset : registry_Registry → Option registry_Registry) (registry_Registry_Reset_nil : Option Unit) (registry_Registry_Weight : registry_Registry → Int → Int → Option (Int × registry_Registry)) (hS : SumsOK Try.prog (aget (sums5 R21_Right health_Right law23_awake registry_Registry_Add registry_Registry_Add_nil registry_Registry_Drain registry_Registry_Get registry_Registry_List registry_Registry_List_nil registry_Registry_Probe registry_Registry_Remove registry_Registry_Remove_nil registry_Registry_Reset registry_Registry_Reset_nil registry_Registry_Weight))) (ra0 : health_Rule) (l : List R23_Step) (res : Bool) (h : law23_RegistryOthersF R21_Right health_Right law23_awake registry_Registry_Add registry_Registry_Add_nil registry_Registry_Drain registry_Registry_Get registry_Registry_List registry_Registry_List_nil registry_Registry_Probe registry_Registry_Remove registry_Registry_Remove_nil registry_Registry_Reset registry_Registry_Reset_nil registry_Registry_Weight ra0 l = some res) :
    Leads Try.prog 5 1 ⟨⟨5, 163, [(0, .agg ⟨[.int .i64 ra0.Rise, .int .i64 ra0.Fall]⟩), (1, .slice (some ⟨0, 0, none⟩) l.length 7)], [.code k5_104], [], false, none⟩, [], [(0, .row false (vT cR23_Step l))], 1⟩ (fun v H _ => Res 1 (rx5 res) v H) := by
  unfold law23_RegistryOthersF at h
  refine ev_ok tab_ok hS true 3000 ?_
  conv => whnf
  replace h := obind.elim h; obtain ⟨xr, hy, h⟩ := h
  refine sumK.q rfl rfl (r25_eq hy) rfl rfl rfl ?_
  conv => whnf
  refine br.h h ?_ ?_ ?_
  · rfl
  · clear h; intro hb h; conv => whnf
    replace h := obind.elim h; obtain ⟨a, hy, h⟩ := h
    refine sumK.q rfl rfl (r15_eq hy) rfl rfl rfl ?_
    conv => whnf
    all_goals (cases h)
    all_goals exact Res.of [] rfl nw_0 (by decide) js_0 (wr_n wr_0)
  clear h; intro hb h; conv => whnf
  refine br.h h ?_ ?_ ?_
  · rfl
  · clear h; intro hb h; conv => whnf
    replace h := obind.elim h; obtain ⟨a1, hy, h⟩ := h
    refine sumK.q rfl rfl (r15_eq hy) rfl rfl rfl ?_
    conv => whnf
    all_goals (cases h)
    all_goals exact Res.of [] rfl nw_0 (by decide) js_0 (wr_n wr_0)
  clear h; intro hb h; conv => whnf
  replace h := obind.elim h; obtain ⟨xr1, hy, h⟩ := h
  refine sumK.q rfl rfl (r69_eq hy) rfl rfl rfl ?_
  conv => whnf
  refine br.h h ?_ ?_ ?_
  · rfl
  · clear h; intro hb h; conv => whnf
    all_goals (cases h)
    all_goals exact Res.of [] rfl nw_0 (by decide) js_0 (wr_n wr_0)
  clear h; intro hb h; conv => whnf
  have hl := loop5_2 R21_Right health_Right law23_awake registry_Registry_Add registry_Registry_Add_nil registry_Registry_Drain registry_Registry_Get registry_Registry_List registry_Registry_List_nil registry_Registry_Probe registry_Registry_Remove registry_Registry_Remove_nil registry_Registry_Reset registry_Registry_Reset_nil registry_Registry_Weight hS _ res _ _ _ h rfl; simp only [head5_2] at hl
  refine Leads.nilC 3 2 9 ?_
  refine Leads.re hl [(0, 0), (3, 3), (4, 4)] rfl ?_ ?_ <;> (repeat' first | exact trivial | refine ⟨⟨_, rfl, rfl⟩, ?_⟩ | refine ⟨⟨_, _, rfl, rfl, .rowF (vI_flat _ _) id⟩, ?_⟩ | refine ⟨⟨_, _, rfl, rfl, .rowF (vS_flat _) id⟩, ?_⟩ | refine ⟨⟨_, _, rfl, rfl, .rowF (vB_flat _) id⟩, ?_⟩ | refine ⟨⟨_, _, rfl, rfl, .rowF (vT_flat (by first | exact chealth_Rule_flat | exact capi_Addr_flat | exact cR23_Step_flat | exact capi_Backend_flat | exact chealth_State_flat | exact cregistry_row_flat | exact cR23_Row_flat) _) id⟩, ?_⟩ | refine ⟨⟨_, _, rfl, rfl, .tyF (vI_flat _ _)⟩, ?_⟩ | refine ⟨⟨_, _, rfl, rfl, .ty rfl⟩, ?_⟩ | refine ⟨⟨_, _, rfl, rfl, .cells rfl⟩, ?_⟩ | refine ⟨⟨_, _, rfl, rfl, .row rfl id⟩, ?_⟩ | refine ⟨⟨_, _, rfl, rfl, .cr rfl⟩, ?_⟩ | refine ⟨⟨_, _, rfl, rfl, .rc rfl⟩, ?_⟩ | refine ⟨⟨_, _, rfl, rfl, .marks⟩, ?_⟩ | refine ⟨⟨_, _, rfl, rfl, .siter _ _⟩, ?_⟩ | refine ⟨⟨_, _, rfl, rfl, .loop rfl rfl rfl rfl (by repeat' first | exact trivial | refine ⟨rfl, ?_⟩) rfl rfl rfl rfl⟩, ?_⟩)
def law23_RegistryOthers : health_Rule → (List R23_Step) → Option Bool := law23_RegistryOthersF R21_Right health_Right law23_awake registry_Registry_Add registry_Registry_Add_nil registry_Registry_Drain registry_Registry_Get registry_Registry_List registry_Registry_List_nil registry_Registry_Probe registry_Registry_Remove registry_Registry_Remove_nil registry_Registry_Reset registry_Registry_Reset_nil registry_Registry_Weight
end Go.Vm.Code
namespace Go.Vm.Code
open Go Go.Vm
def wantB (e : R23_Step) (r : registry_row) : api_Backend := if e.Kind = 5 ∧ (tld r).State = 2 then ⟨(tld r).ID, (tld r).Weight, 1, (tld r).Addr⟩ else tld r
def Oth (e : R23_Step) (g g' : registry_Registry) : Prop := ∀ (k : Nat) r, g.rows[k]? = some r → ∃ b, registry_Registry_Get g' r.Backend.ID = some (b, true) ∧ (b = wantB e r ∨ (1 ≤ e.Kind ∧ e.Kind ≤ 4 ∧ e.ID = r.Backend.ID))
abbrev OthT := Int × Int × Int × Int × Int × (List registry_row)
def othSt (i : Nat) (g : registry_Registry) : OthT := ((i : Int), g.rule.Rise, g.rule.Fall, g.last, g.version, g.rows)
theorem oth_look {l : List R23_Step} {i : Nat} (hi : i < l.length) (hl : l.length ≤ 100) {e : R23_Step} {g g' : registry_Registry} (hlen : g.rows.length ≤ 64) (ho : Oth e g g') :
    iter (fun st => law23_RegistryOthers_s1 registry_Registry_Get l i e (g.rows.map tld) st.1 st.2.1 st.2.2.1 st.2.2.2.1 st.2.2.2.2.1 st.2.2.2.2.2) FUEL (0, g'.rule.Rise, g'.rule.Fall, g'.last, g'.version, g'.rows) = some (.inl (othSt (i + 1) g')) := by
  refine iter_eq (fun _ => Sum.inl (othSt (i + 1) g')) (fun st => ∃ k : Nat, k ≤ g.rows.length ∧ st = ((k : Int), g'.rule.Rise, g'.rule.Fall, g'.last, g'.version, g'.rows)) (fun st => g.rows.length - st.1.toNat) ?_ FUEL _ ⟨0, by omega, rfl⟩ (by rw [FUEL_eq]; simp only []; omega)
  rintro s ⟨k, hk, rfl⟩
  dsimp only
  unfold law23_RegistryOthers_s1
  have hm : (g.rows.map tld).length = g.rows.length := by simp
  rw [hm]
  rcases Nat.lt_or_ge k g.rows.length with hlt | hge
  · right
    have hg := List.getElem?_eq_getElem hlt
    have hget : (g.rows.map tld)[k]? = some (tld g.rows[k]) := by rw [List.getElem?_map, hg]; rfl
    obtain ⟨b, hb, hw⟩ := ho k _ hg
    generalize g.rows[k] = r at hg hget hb hw
    have hb' : registry_Registry_Get (registry_Registry.mk (health_Rule.mk g'.rule.Rise g'.rule.Fall) g'.rows g'.last g'.version) (tld r).ID = some (b, true) := hb
    have next : ∃ s' : OthT, (some (Sum.inl (wI .i64 ((k : Int) + 1), g'.rule.Rise, g'.rule.Fall, g'.last, g'.version, g'.rows)) : Option (Sum OthT (Sum OthT Bool))) = some (Sum.inl s') ∧ (∃ k : Nat, k ≤ g.rows.length ∧ s' = ((k : Int), g'.rule.Rise, g'.rule.Fall, g'.last, g'.version, g'.rows)) ∧ g.rows.length - s'.1.toNat < g.rows.length - (k : Int).toNat ∧ True := by
      rw [wI64 (by omega) (by omega)]
      exact ⟨_, rfl, ⟨k + 1, by omega, rfl⟩, by simp only []; omega, trivial⟩
    rw [cond_p (by omega), oreq_p ⟨by omega, by omega⟩, Int.toNat_natCast, hget, Option.bind_some, hb', Option.bind_some, oreq_p ⟨by omega, by omega⟩]
    have key : ∀ w : api_Backend, w.ID = (tld r).ID → (b = w ∨ (1 ≤ e.Kind ∧ e.Kind ≤ 4 ∧ e.ID = r.Backend.ID)) →
        cond (!((b.ID == w.ID) && ((b.Weight == w.Weight) && ((b.State == w.State) && ((b.Addr.V6 == w.Addr.V6) && ((b.Addr.Hi == w.Addr.Hi) && ((b.Addr.Lo == w.Addr.Lo) && true)))))))
          (cond (decide (e.Kind < 1)) (some (.inr (.inr false))) (cond (decide (e.Kind > 4)) (some (.inr (.inr false))) (cond (e.ID != w.ID) (some (.inr (.inr false)))
            (some (.inl (wI .i64 ((k : Int) + 1), g'.rule.Rise, g'.rule.Fall, g'.last, g'.version, g'.rows))))))
          (some (.inl (wI .i64 ((k : Int) + 1), g'.rule.Rise, g'.rule.Fall, g'.last, g'.version, g'.rows))) = (some (Sum.inl (wI .i64 ((k : Int) + 1), g'.rule.Rise, g'.rule.Fall, g'.last, g'.version, g'.rows)) : Option (Sum OthT (Sum OthT Bool))) := by
      intro w hid hw
      have e1 := beqB_eq b w
      unfold beqB at e1
      rw [e1]
      rcases hw with rfl | ⟨h1, h2, h3⟩
      · simp
      · rw [cond_n (by omega), cond_n (by omega), show (e.ID != w.ID) = false from by rw [bne_eq_false_iff_eq, hid]; exact h3, cond_false]
        cases !decide (b = w) <;> rfl
    cases h5 : e.Kind == 5 with
    | true =>
      have h5' : e.Kind = 5 := by simpa using h5
      rw [cond_true]
      cases h2 : (tld r).State == 2 with
      | true =>
        have h2' : (tld r).State = 2 := by simpa using h2
        simp only [cond_true, Bool.not_true, cond_false]
        have := key ⟨(tld r).ID, (tld r).Weight, 1, (tld r).Addr⟩ rfl (by unfold wantB at hw; rw [if_pos ⟨h5', h2'⟩] at hw; exact hw)
        rw [this]; exact next
      | false =>
        have h2' : ¬ (tld r).State = 2 := by simpa using h2
        simp only [Bool.not_true, cond_false]
        have := key (tld r) rfl (by unfold wantB at hw; rw [if_neg (fun c => h2' c.2)] at hw; exact hw)
        rw [this]; exact next
    | false =>
      have h5' : ¬ e.Kind = 5 := by simpa using h5
      simp only [Bool.not_true, cond_false]
      have := key (tld r) rfl (by unfold wantB at hw; rw [if_neg (fun c => h5' c.1)] at hw; exact hw)
      rw [this]; exact next
  · left
    rw [cond_n (by omega), wI64 (by omega) (by omega)]; rfl
theorem oth_self {N : Int} {e : R23_Step} {g : registry_Registry} (h : RI N g) (h5 : e.Kind ≠ 5) : Oth e g g := fun k r hk => ⟨_, get_yes h hk, .inl (by unfold wantB; rw [if_neg (fun c => h5 c.1)])⟩
theorem oth_upd {N : Int} {e : R23_Step} {g : registry_Registry} {k0 : Nat} {r0 q : registry_row} {dv : Int} (h : RI N (updR g k0 q dv)) (hk0 : g.rows[k0]? = some r0) (hq : q.Backend.ID = r0.Backend.ID) (h1 : 1 ≤ e.Kind) (h4 : e.Kind ≤ 4) (hid : r0.Backend.ID = e.ID) : Oth e g (updR g k0 q dv) := by
  intro k r hk
  have hl := (List.getElem?_eq_some_iff.1 hk).1
  by_cases hkk : k0 = k
  · subst hkk
    rw [hk] at hk0; cases hk0
    have hg : (updR g k0 q dv).rows[k0]? = some q := by simp [updR, hl]
    exact ⟨_, by rw [← hq]; exact get_yes h hg, .inr ⟨h1, h4, hid.symm⟩⟩
  · have hg : (updR g k0 q dv).rows[k]? = some r := by simp only [updR]; rw [List.getElem?_set, if_neg hkk]; exact hk
    exact ⟨_, get_yes h hg, .inl (by unfold wantB; rw [if_neg (by omega)])⟩
theorem oth_add {N M : Int} {e : R23_Step} {g : registry_Registry} (hg : RI M g) (w : Int) (a : api_Addr) (h : RI N (addG g w a).2.2) (h5 : e.Kind ≠ 5) : Oth e g (addG g w a).2.2 := by
  unfold addG at h ⊢
  split
  · split
    · exact oth_self hg h5
    · rename_i c1 c2
      rw [if_pos c1, if_neg c2] at h
      intro k r hk
      have hl := (List.getElem?_eq_some_iff.1 hk).1
      refine ⟨_, get_yes h (k := k) (r := r) (by show (g.rows ++ _)[k]? = _; rw [List.getElem?_append_left hl]; exact hk), .inl (by unfold wantB; rw [if_neg (fun c => h5 c.1)])⟩
  · exact oth_self hg h5
theorem oth_rem {N M : Int} {e : R23_Step} {g : registry_Registry} (hg : RI M g) {k0 : Nat} {r0 : registry_row} (hk0 : g.rows[k0]? = some r0) (h : RI N (remG g k0)) (h1 : e.Kind = 1) (hid : r0.Backend.ID = e.ID) : Oth e g (remG g k0) := by
  intro k r hk
  have w : wantB e r = tld r := by unfold wantB; rw [if_neg (by omega)]
  rcases Nat.lt_trichotomy k k0 with hl | hl | hl
  · exact ⟨_, get_yes h (k := k) (r := r) (by simp only [remG, List.getElem?_eraseIdx, if_pos hl]; exact hk), .inl w.symm⟩
  · subst hl
    rw [hk] at hk0; cases hk0
    exact ⟨_, by rw [get_no h (rem_none hg hk), if_pos (show 1 ≤ r0.Backend.ID ∧ r0.Backend.ID ≤ (remG g k).last from hg.id_at hk)], .inr ⟨by omega, by omega, hid.symm⟩⟩
  · exact ⟨_, get_yes h (k := k - 1) (r := r) (by simp only [remG, List.getElem?_eraseIdx]; rw [if_neg (by omega), show k - 1 + 1 = k by omega]; exact hk), .inl w.symm⟩
theorem oth_reset {N : Int} {e : R23_Step} {g : registry_Registry} (h : RI N (rstG g)) (h5 : e.Kind = 5) : Oth e g (rstG g) := by
  intro k r hk
  refine ⟨_, get_yes h (k := k) (r := rst r) (by simp [rstG, hk]), .inl ?_⟩
  unfold wantB
  simp only [tld, rst, h5, true_and]
  cases r.drains <;> cases r.health.Up <;> rfl
theorem oth_round {l : List R23_Step} (hl : l.length ≤ 100) {i : Nat} (hi : i < l.length) {g : registry_Registry} (h : RI (i : Int) g) :
    ∃ g', RI ((i + 1 : Nat) : Int) g' ∧ law23_RegistryOthers_s2 (some true) registry_Registry_Add registry_Registry_Drain registry_Registry_Get registry_Registry_List registry_Registry_Probe registry_Registry_Remove registry_Registry_Reset registry_Registry_Weight l i g.rule.Rise g.rule.Fall g.last g.version g.rows = some (.inl (othSt (i + 1) g')) := by
  unfold law23_RegistryOthers_s2
  have hN : (i : Int) < 2 ^ 40 := by omega
  have v0 := h.ver0; have v1 := h.ver1; have hlen := h.len; have l0 := h.last0; have l1 := h.last1
  have hm : (g.rows.map tld).length = g.rows.length := by simp
  have stay : RI ((i + 1 : Nat) : Int) g := h.mono (by omega)
  have e0 : registry_Registry.mk (health_Rule.mk g.rule.Rise g.rule.Fall) g.rows g.last g.version = g := rfl
  have ec : ((i + 1 : Nat) : Int) = (i : Int) + 1 := by omega
  rw [cond_p (by omega), oreq_p ⟨by omega, by omega⟩, Int.toNat_natCast, List.getElem?_eq_getElem hi, Option.bind_some, e0, list_eq h, Option.bind_some]
  generalize l[i] = e
  have same : ∀ {g' : registry_Registry} {d : Int}, (g'.rows.length : Int) = g.rows.length + d → -1 ≤ d → d ≤ 1 → (((g'.rows.map tld).length : Int) != wI .i64 (((g.rows.map tld).length : Int) + d)) = false := by
    intro g' d hd h1 h2
    rw [bne_eq_false_iff_eq, wI64 (by omega) (by omega)]
    simp only [List.length_map]; omega
  have look : ∀ {g' : registry_Registry}, Oth e g g' → iter (fun st => law23_RegistryOthers_s1 registry_Registry_Get l i e (g.rows.map tld) st.1 st.2.1 st.2.2.1 st.2.2.2.1 st.2.2.2.2.1 st.2.2.2.2.2) FUEL (0, g'.rule.Rise, g'.rule.Fall, g'.last, g'.version, g'.rows) = some (.inl (othSt (i + 1) g')) := fun h' => oth_look hi hl hlen h'
  cases h0 : e.Kind == 0 with
  | true =>
    have hk : e.Kind = 0 := by simpa using h0
    have hR := add_RI h e.N e.Addr
    rw [← ec] at hR
    have ho := oth_add h e.N e.Addr hR (e := e) (by omega)
    rw [cond_true, add_eq h hN, Option.bind_some]
    refine ⟨_, hR, ?_⟩
    rw [list_eq hR]
    simp only [Option.bind_some]
    unfold addG at ho ⊢
    by_cases c1 : weighB e.N = true ∧ adrB e.Addr = true
    · simp only [if_pos c1] at ho ⊢
      by_cases c2 : g.rows.length = 64 ∨ g.last = 65535
      · simp only [if_pos c2] at ho ⊢
        rw [show ((9 : Int) == 0) = false from by decide, cond_false, same (d := 0) (by omega) (by decide) (by decide), cond_false]
        exact look ho
      · simp only [if_neg c2] at ho ⊢
        rw [show ((0 : Int) == 0) = true from by decide, cond_true]
        have := same (g' := ⟨g.rule, g.rows ++ [newRow (g.last + 1) e.N e.Addr], g.last + 1, g.version + 1⟩) (d := 1) (by simp) (by decide) (by decide)
        simp only [] at this
        rw [this, cond_false]
        exact look ho
    · simp only [if_neg c1] at ho ⊢
      rw [show ((1 : Int) == 0) = false from by decide, cond_false, same (d := 0) (by omega) (by decide) (by decide), cond_false]
      exact look ho
  | false =>
  rw [cond_false]
  have keep : ∀ (X : Option (Sum OthT Bool)), e.Kind ≠ 5 → X = cond ((((g.rows.map tld).length : Int)) != wI .i64 (((g.rows.map tld).length : Int) + 0)) (some (.inr false)) (iter (fun st => law23_RegistryOthers_s1 registry_Registry_Get l i e (g.rows.map tld) st.1 st.2.1 st.2.2.1 st.2.2.2.1 st.2.2.2.2.1 st.2.2.2.2.2) FUEL (0, g.rule.Rise, g.rule.Fall, g.last, g.version, g.rows)) → ∃ g', RI ((i + 1 : Nat) : Int) g' ∧ X = some (.inl (othSt (i + 1) g')) := by
    rintro X h5 rfl
    refine ⟨g, stay, ?_⟩
    rw [same (g' := g) (d := 0) (by omega) (by decide) (by decide), cond_false]
    exact look (oth_self h h5)
  have chg : ∀ (X : Option (Sum OthT Bool)) (g' : registry_Registry), RI ((i + 1 : Nat) : Int) g' → Oth e g g' → g'.rows.length = g.rows.length → X = cond ((((g'.rows.map tld).length : Int)) != wI .i64 (((g.rows.map tld).length : Int) + 0)) (some (.inr false)) (iter (fun st => law23_RegistryOthers_s1 registry_Registry_Get l i e (g.rows.map tld) st.1 st.2.1 st.2.2.1 st.2.2.2.1 st.2.2.2.2.1 st.2.2.2.2.2) FUEL (0, g'.rule.Rise, g'.rule.Fall, g'.last, g'.version, g'.rows)) → ∃ g', RI ((i + 1 : Nat) : Int) g' ∧ X = some (.inl (othSt (i + 1) g')) := by
    rintro X g' hR ho hl' rfl
    refine ⟨g', hR, ?_⟩
    rw [same (g' := g') (d := 0) (by omega) (by decide) (by decide), cond_false]
    exact look ho
  have lenU : ∀ k q dv, (updR g k q dv).rows.length = g.rows.length := fun k q dv => by simp [updR]
  cases h1 : e.Kind == 1 with
  | true =>
    have hk1 : e.Kind = 1 := by simpa using h1
    rw [cond_true]
    rcases rid_dec g e.ID with ⟨k, r, hk, eid⟩ | hn
    · have hR := rem_RI h k
      rw [← ec] at hR
      have hkl := (List.getElem?_eq_some_iff.1 hk).1
      refine ⟨_, hR, ?_⟩
      rw [← eid, remove_yes h hN hk, Option.bind_some]
      simp only [BEq.rfl, cond_true]
      rw [list_eq hR, Option.bind_some]
      have := same (g' := remG g k) (d := -1) (by simp only [remG, List.length_eraseIdx, if_pos hkl]; omega) (by decide) (by decide)
      rw [this, cond_false]
      exact look (oth_rem h hk hR hk1 eid)
    · rw [remove_no h hn, Option.bind_some]
      refine keep _ (by omega) ?_
      rw [show ((13 : Int) == 0) = false from by decide, cond_false, list_eq h, Option.bind_some]
  | false =>
  rw [cond_false]
  cases h2 : e.Kind == 2 with
  | true =>
    have hk2 : e.Kind = 2 := by simpa using h2
    rw [cond_true]
    rcases rid_dec g e.ID with ⟨k, r, hk, eid⟩ | hn
    · rw [← eid, drain_yes h hN hk, Option.bind_some]
      by_cases c : r.drains = e.On
      · rw [if_pos c]
        refine keep _ (by omega) ?_
        rw [list_eq h, Option.bind_some]
      · have hR : RI ((i + 1 : Nat) : Int) (updR g k ⟨r.Backend, e.On, r.health⟩ 1) := by rw [ec]; exact h.upd hk (by rfl) (by decide) (by decide)
        rw [if_neg c]
        refine chg _ _ hR (oth_upd hR hk (by rfl) (by omega) (by omega) eid) (lenU _ _ _) ?_
        rw [list_eq hR, Option.bind_some]
    · rw [drain_no h hn, Option.bind_some]
      refine keep _ (by omega) ?_
      rw [list_eq h, Option.bind_some]
  | false =>
  rw [cond_false]
  cases h3 : e.Kind == 3 with
  | true =>
    have hk3 : e.Kind = 3 := by simpa using h3
    rw [cond_true]
    rcases rid_dec g e.ID with ⟨k, r, hk, eid⟩ | hn
    · rw [← eid, weight_yes h hN hk, Option.bind_some]
      cases c : weighB e.N with
      | false =>
        rw [if_neg (by decide)]
        refine keep _ (by omega) ?_
        rw [list_eq h, Option.bind_some]
      | true =>
        have hR : RI ((i + 1 : Nat) : Int) (updR g k ⟨⟨r.Backend.ID, e.N, r.Backend.State, r.Backend.Addr⟩, r.drains, r.health⟩ 1) := by rw [ec]; exact h.upd hk (by rfl) (by decide) (by decide)
        rw [if_pos rfl]
        refine chg _ _ hR (oth_upd hR hk (by rfl) (by omega) (by omega) eid) (lenU _ _ _) ?_
        rw [list_eq hR, Option.bind_some]
    · rw [weight_no h hn, Option.bind_some]
      refine keep _ (by omega) ?_
      rw [list_eq h, Option.bind_some]
  | false =>
  rw [cond_false]
  cases h4 : e.Kind == 4 with
  | true =>
    have hk4 : e.Kind = 4 := by simpa using h4
    rw [cond_true]
    rcases rid_dec g e.ID with ⟨k, r, hk, eid⟩ | hn
    · rw [← eid, probe_yes h hN hk, Option.bind_some]
      have hR : RI ((i + 1 : Nat) : Int) (updR g k ⟨r.Backend, r.drains, (putS g.rule r.health e.On).1⟩ (if (putS g.rule r.health e.On).2 then 1 else 0)) := by
        rw [ec]; refine h.upd hk (by rfl) ?_ ?_ <;> split <;> decide
      refine chg _ _ hR (oth_upd hR hk (by rfl) (by omega) (by omega) eid) (lenU _ _ _) ?_
      rw [list_eq hR, Option.bind_some]
    · rw [probe_no h hn, Option.bind_some]
      refine keep _ (by omega) ?_
      rw [list_eq h, Option.bind_some]
  | false =>
  rw [cond_false]
  cases h5 : e.Kind == 5 with
  | true =>
    have hR := reset_RI h
    rw [← ec] at hR
    rw [cond_true, reset_eq h hN, Option.bind_some]
    refine chg _ _ hR (oth_reset hR (by simpa using h5)) (by simp [rstG]) ?_
    rw [list_eq hR, Option.bind_some]
  | false =>
    rw [cond_false]
    refine keep _ (by simpa using h5) ?_
    rw [Option.bind_some]
theorem registryOthers (ra0 : health_Rule) (l : List R23_Step) : law23_RegistryOthers ra0 l = some true := by
  unfold law23_RegistryOthers law23_RegistryOthersF
  rw [awake23, rright_eq, Option.bind_some]
  cases hr : ruleB ra0 with
  | false => rfl
  | true =>
  simp only [Bool.not_true, cond_false]
  by_cases hl : (l.length : Int) > 100
  · rw [cond_p hl]; rfl
  rw [cond_n hl, hright_eq, Option.bind_some, hr]
  simp only [Bool.not_true, cond_false]
  have hi : RI ((0 : Nat) : Int) (registry_Registry.mk ra0 [] 0 0) := { rule := hr, len := by simp, last0 := by simp, last1 := by simp, ver0 := by simp, ver1 := by simp, ids := by simp, up := by simp }
  refine iter_eq (fun _ => true) (fun st => ∃ (i : Nat) (g : registry_Registry), i ≤ l.length ∧ RI (i : Int) g ∧ st = othSt i g) (fun st => l.length - st.1.toNat) ?_ FUEL (0, ra0.Rise, ra0.Fall, 0, 0, []) ⟨0, _, by omega, hi, rfl⟩ (by rw [FUEL_eq]; simp only []; omega)
  rintro s ⟨i, g, hi, h, rfl⟩
  rcases Nat.lt_or_ge i l.length with hlt | hge
  · right
    obtain ⟨g', h', e⟩ := oth_round (by omega) hlt h
    refine ⟨_, e, ⟨i + 1, g', by omega, h', rfl⟩, ?_, by trivial⟩
    simp only [othSt]; omega
  · left
    simp only [othSt]
    unfold law23_RegistryOthers_s2
    rw [cond_n (by omega)]; rfl
end Go.Vm.Code
