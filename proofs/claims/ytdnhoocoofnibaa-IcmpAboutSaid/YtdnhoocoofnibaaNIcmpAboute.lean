import Derived.Test.YtdnhoocoofnibaaNIcmpAboutd
namespace Go.Vm.Code
open Go Go.Vm Go.Proofs
set_option maxRecDepth 100000
set_option maxHeartbeats 4000000
set_option linter.unusedVariables false
def octet_Put_s1 (n : Int) (k : Int) (t17 : Int) (b : List Int) : Option (Sum (Int × (List Int)) (List UInt8)) :=
  cond (decide (t17 < (k.toNat : Int)))
    (
    let t := wI .i64 (8 * (wI .i64 ((wI .i64 (k - 1)) - t17)))
    oreq (decide (0 ≤ t)) <|
    oreq (decide ((0 : Int) ≤ t17 ∧ t17 < (k.toNat : Int))) <|
    oreq (decide (t17.toNat < b.length)) <|
    let row := b.set t17.toNat (wI .u8 (n.fdiv (2 ^ (min t.toNat 64))))
    some (.inl (wI .i64 (t17 + 1), row)))
    (
    oreq (decide (k.toNat ≤ b.length)) <|
    some (.inr (iB (b.take k.toNat))))
def octet_PutF (n : Int) (k : Int) : Option (List UInt8) :=
  cond (decide (k < 1))
    (
    some ([]))
    (
    cond (decide (k > 8))
      (
      some ([]))
      (
      oreq (decide (0 ≤ k ∧ k ≤ k ∧ k < 2 ^ 63 ∧ (1 : Int) * k ≤ 2 ^ 48)) <|
      iter (fun st => octet_Put_s1 n k st.1 st.2) FUEL (0, List.replicate k.toNat (0))))
def rx62 (x : List UInt8) : SRes := ⟨.string ⟨⟨x⟩⟩, [], []⟩
def r62 (g : Int → Int → Option (List UInt8)) : Dec := dV (asI .u64) fun (y0 : Int) => dV (asI .i64) fun (y1 : Int) => dEnd (ofG (g y0 y1) rx62)
theorem r62_c {g : Int → Int → Option (List UInt8)} {y0 : Int} {y1 : Int} {x : List UInt8} (hx : g y0 y1 = some x) : r62 g [.int .u64 y0, .int .i64 y1] [] = some (rx62 x) := (dV_eq (asI_c _)).trans ((dV_eq (asI_c _)).trans (ofG_eq hx))
def s62 (g : Int → Int → Option (List UInt8)) : Summ := ⟨[.v, .v], r62 g⟩
theorem r62_eq {g : Int → Int → Option (List UInt8)} {y0 : Int} {y1 : Int} {x : List UInt8} (hx : g y0 y1 = some x) : (s62 g).run [.int .u64 y0, .int .i64 y1] [] = some (rx62 x) := r62_c hx
abbrev sums62 : List (Nat × Summ) := []
def head62_1 (n : Int) (k : Int) (t17 : Int) (b : List Int) : VM :=
  ⟨⟨62, 34, [(0, .int .u64 n), (1, .int .i64 k), (5, .slice (some ⟨0, 0, none⟩) k.toNat 1), (16, .int .i64 (k.toNat : Int)), (17, .int .i64 t17)], [.code k62_17, .inLoop k62_17, .inBlock 0, .code k62_22], [], false, none⟩, [], [(0, .row true (vI .u8 b))], 1⟩
theorem loop62_1 (hS : SumsOK Try.prog (aget (sums62))) (n : Int) (k : Int) (res : List UInt8) : ∀ fuel (st : Int × (List Int)) (o : List UInt8), iter (fun st => octet_Put_s1 n k st.1 st.2) fuel st = some o → (o = res) →
    Leads Try.prog 62 0 (head62_1 n k st.1 st.2) (fun v H _ => Res 0 (rx62 res) v H) := by
  intro fuel st o h hc
  refine iter_leads (head := fun st => head62_1 n k st.1 st.2) (C := fun o => (o = res)) ?_ fuel st o h hc
  clear h hc o st fuel
  intro st o h hc
  obtain ⟨t17, b⟩ := st
  replace h : octet_Put_s1 n k t17 b = some o := h
  show Leads Try.prog 62 0 (head62_1 n k t17 b) (fun v H _ => Res 0 (rx62 res) v H)
  unfold octet_Put_s1 at h
  refine ev_ok tab_ok hS true 3000 ?_
  conv => whnf
  refine br.h2 h ?_ ?_ ?_
  · rfl
  · clear h; intro hb h; conv => whnf
    replace h := oreq.elim h; obtain ⟨hb, h⟩ := h
    refine req.intro (by (first | rfl | (simp [vI, vB, vS, bI, oneC, addrBlk, cellsL, Value.cells] at *; omega) | (simp [vI, vB, vS, bI, oneC, addrBlk, cellsL, Value.cells] at *; done))) ?_
    conv => whnf
    refine pk_b2s ?_
    conv => whnf
    all_goals (cases h; cases hc; exact Res.z rfl rfl rfl)
  clear h; intro hb h; conv => whnf
  let t : Int := wI .i64 (8 * (wI .i64 ((wI .i64 (k - 1)) - t17)))
  replace h := oreq.elim h; obtain ⟨hb, h⟩ := h
  first | (refine req.intro hb ?_; conv => whnf) | skip
  replace h := oreq.elim h; obtain ⟨hb, h⟩ := h
  first | (refine req.intro hb ?_; conv => whnf) | skip
  replace h := oreq.elim h; obtain ⟨hb, h⟩ := h
  refine st_I hb (by first | rfl | (rw [Nat.zero_add, Nat.mul_one]; done) | omega) ?_
  conv => whnf
  let row : List Int := b.set t17.toNat (wI .u8 (n.fdiv (2 ^ (min t.toNat 64))))
  cases h; simp only [Sum.elim_inl, head62_1] at hc
  refine Leads.re hc [(0, 0)] rfl ?_ ?_ <;> (repeat' first | exact trivial | refine ⟨⟨_, rfl, rfl⟩, ?_⟩ | refine ⟨⟨_, _, rfl, rfl, .rowF (vI_flat _ _) id⟩, ?_⟩ | refine ⟨⟨_, _, rfl, rfl, .rowF (vS_flat _) id⟩, ?_⟩ | refine ⟨⟨_, _, rfl, rfl, .rowF (vB_flat _) id⟩, ?_⟩ | refine ⟨⟨_, _, rfl, rfl, .rowF (vT_flat (by first | exact cicmp_Message_flat | exact capi_Addr_flat | exact coctet_Reader_flat | exact cArr2_Int_flat | exact cArr4_Arr2_Int_flat | exact cruntime_errorAddressString_flat | exact cudp_Head_flat | exact cipsix_Head_flat | exact cipfour_Head_flat | exact capi_Tuple_flat | exact ctcp_Head_flat) _) id⟩, ?_⟩ | refine ⟨⟨_, _, rfl, rfl, .tyF (vI_flat _ _)⟩, ?_⟩ | refine ⟨⟨_, _, rfl, rfl, .ty rfl⟩, ?_⟩ | refine ⟨⟨_, _, rfl, rfl, .cells rfl⟩, ?_⟩ | refine ⟨⟨_, _, rfl, rfl, .row rfl id⟩, ?_⟩ | refine ⟨⟨_, _, rfl, rfl, .cr rfl⟩, ?_⟩ | refine ⟨⟨_, _, rfl, rfl, .rc rfl⟩, ?_⟩ | refine ⟨⟨_, _, rfl, rfl, .marks⟩, ?_⟩ | refine ⟨⟨_, _, rfl, rfl, .siter _ _⟩, ?_⟩ | refine ⟨⟨_, _, rfl, rfl, .loop rfl rfl rfl rfl (by repeat' first | exact trivial | refine ⟨rfl, ?_⟩) rfl rfl rfl rfl⟩, ?_⟩)
theorem leads62 (hS : SumsOK Try.prog (aget (sums62))) (n : Int) (k : Int) (res : List UInt8) (h : octet_PutF n k = some res) :
    Leads Try.prog 62 0 ⟨⟨62, 34, [(0, .int .u64 n), (1, .int .i64 k)], [.code k62_26], [], false, none⟩, [], [], 0⟩ (fun v H _ => Res 0 (rx62 res) v H) := by
  unfold octet_PutF at h
  refine ev_ok tab_ok hS true 3000 ?_
  conv => whnf
  refine br.h h ?_ ?_ ?_
  · rfl
  · clear h; intro hb h; conv => whnf
    all_goals (cases h; exact Res.z rfl rfl rfl)
  clear h; intro hb h; conv => whnf
  refine br.h h ?_ ?_ ?_
  · rfl
  · clear h; intro hb h; conv => whnf
    all_goals (cases h; exact Res.z rfl rfl rfl)
  clear h; intro hb h; conv => whnf
  replace h := oreq.elim h; obtain ⟨hb, h⟩ := h
  first | (refine req.intro hb ?_; conv => whnf) | skip
  refine pk_mkI ?_
  conv => whnf
  have hl := loop62_1 hS _ _ res _ _ _ h rfl; simp only [head62_1] at hl
  refine Leads.re hl [(0, 0)] rfl ?_ ?_ <;> (repeat' first | exact trivial | refine ⟨⟨_, rfl, rfl⟩, ?_⟩ | refine ⟨⟨_, _, rfl, rfl, .rowF (vI_flat _ _) id⟩, ?_⟩ | refine ⟨⟨_, _, rfl, rfl, .rowF (vS_flat _) id⟩, ?_⟩ | refine ⟨⟨_, _, rfl, rfl, .rowF (vB_flat _) id⟩, ?_⟩ | refine ⟨⟨_, _, rfl, rfl, .rowF (vT_flat (by first | exact cicmp_Message_flat | exact capi_Addr_flat | exact coctet_Reader_flat | exact cArr2_Int_flat | exact cArr4_Arr2_Int_flat | exact cruntime_errorAddressString_flat | exact cudp_Head_flat | exact cipsix_Head_flat | exact cipfour_Head_flat | exact capi_Tuple_flat | exact ctcp_Head_flat) _) id⟩, ?_⟩ | refine ⟨⟨_, _, rfl, rfl, .tyF (vI_flat _ _)⟩, ?_⟩ | refine ⟨⟨_, _, rfl, rfl, .ty rfl⟩, ?_⟩ | refine ⟨⟨_, _, rfl, rfl, .cells rfl⟩, ?_⟩ | refine ⟨⟨_, _, rfl, rfl, .row rfl id⟩, ?_⟩ | refine ⟨⟨_, _, rfl, rfl, .cr rfl⟩, ?_⟩ | refine ⟨⟨_, _, rfl, rfl, .rc rfl⟩, ?_⟩ | refine ⟨⟨_, _, rfl, rfl, .marks⟩, ?_⟩ | refine ⟨⟨_, _, rfl, rfl, .siter _ _⟩, ?_⟩ | refine ⟨⟨_, _, rfl, rfl, .loop rfl rfl rfl rfl (by repeat' first | exact trivial | refine ⟨rfl, ?_⟩) rfl rfl rfl rfl⟩, ?_⟩)
theorem ok62 (hS : SumsOK Try.prog (aget (sums62))) : SumOK Try.prog 62 (s62 (octet_PutF)) := by
  refine SumOK.of_leads tab_ok (fun ar os r ha hr => ?_) ⟨Try.f62, rfl, by decide, rfl⟩
  replace hr : r62 (octet_PutF) ar (conts os) = some r := hr
  unfold r62 at hr
  generalize hc : conts os = C at hr
  replace hr := dV.elim hr; obtain ⟨v0, l1, y0, rfl, e0, hr⟩ := hr; obtain rfl := asI_eq _ _ _ e0
  replace hr := dV.elim hr; obtain ⟨v1, l2, y1, rfl, e1, hr⟩ := hr; obtain rfl := asI_eq _ _ _ e1
  replace hr := dFin hr; obtain ⟨rfl, rfl, x, h, rfl⟩ := hr
  obtain rfl := kinds_nil hc
  exact ⟨_, rfl, leads62 hS _ _ x h⟩
def octet_Put : Int → Int → Option (List UInt8) := octet_PutF
theorem lift62 : SumOK Try.prog 62 (s62 octet_Put) := ok62 (SumsOK.of_tab trivial)
def octet_Get_s1 (t1 : List UInt8) (n : Int) (t37 : Int) : Option (Sum (Int × Int) (Int × Bool)) :=
  cond (decide (t37 < (t1.length : Int)))
    (
    oreq (decide ((0 : Int) ≤ t37 ∧ t37 < (t1.length : Int))) <|
    ((bI t1)[t37.toNat]?).bind fun (e : Int) =>
    let t2 := iorI .u64 (wI .u64 (n * 2 ^ 8)) (wI .u64 e)
    some (.inl (t2, wI .i64 (t37 + 1))))
    (
    some (.inr ((n, true))))
def octet_GetF (s : List UInt8) (ata1 : Int) (k : Int) : Option (Int × Bool) :=
  cond (decide (k < 1))
    (
    some ((0, false)))
    (
    cond (decide (k > 8))
      (
      some ((0, false)))
      (
      cond (decide (ata1 < 0))
        (
        some ((0, false)))
        (
        let t := decide ((wI .i64 ((s.length : Int) - k)) < ata1)
        cond (t)
          (
          some ((0, false)))
          (
          oreq (decide ((0 : Int) ≤ (wI .i64 (ata1 + k)) ∧ (wI .i64 (ata1 + k)) ≤ (s.length : Int) ∧ (0 : Int) ≤ ata1 ∧ ata1 ≤ ((wI .i64 (ata1 + k)).toNat : Int))) <|
          let t1 := (s.drop ata1.toNat).take ((wI .i64 (ata1 + k)).toNat - ata1.toNat)
          iter (fun st => octet_Get_s1 t1 st.1 st.2) FUEL (0, 0)))))
def rx101 (x : Int × Bool) : SRes := ⟨.tuple ⟨[.int .u64 x.1, .bool x.2]⟩, [], []⟩
def r101 (g : (List UInt8) → Int → Int → Option (Int × Bool)) : Dec := dV asS fun (y0 : List UInt8) => dV (asI .i64) fun (y1 : Int) => dV (asI .i64) fun (y2 : Int) => dEnd (ofG (g y0 y1 y2) rx101)
theorem r101_c {g : (List UInt8) → Int → Int → Option (Int × Bool)} {y0 : List UInt8} {y1 : Int} {y2 : Int} {x : Int × Bool} (hx : g y0 y1 y2 = some x) : r101 g [.string ⟨⟨y0⟩⟩, .int .i64 y1, .int .i64 y2] [] = some (rx101 x) := (dV_eq (asS_c)).trans ((dV_eq (asI_c _)).trans ((dV_eq (asI_c _)).trans (ofG_eq hx)))
def s101 (g : (List UInt8) → Int → Int → Option (Int × Bool)) : Summ := ⟨[.v, .v, .v], r101 g⟩
theorem r101_eq {g : (List UInt8) → Int → Int → Option (Int × Bool)} {y0 : List UInt8} {y1 : Int} {y2 : Int} {x : Int × Bool} (hx : g y0 y1 y2 = some x) : (s101 g).run [.string ⟨⟨y0⟩⟩, .int .i64 y1, .int .i64 y2] [] = some (rx101 x) := r101_c hx
abbrev sums101 : List (Nat × Summ) := []
def head101_1 (t1 : List UInt8) (n : Int) (t37 : Int) : VM :=
  ⟨⟨101, 48, [(8, .int .u64 n), (35, .slice (some ⟨0, 0, none⟩) t1.length 1), (36, .int .i64 (t1.length : Int)), (37, .int .i64 t37)], [.code k101_17, .inLoop k101_17, .inBlock 0, .code k101_22], [], false, none⟩, [], [(0, .row true (vI .u8 (bI t1)))], 1⟩
theorem loop101_1 (hS : SumsOK Try.prog (aget (sums101))) (t1 : List UInt8) (res : Int × Bool) : ∀ fuel (st : Int × Int) (o : Int × Bool), iter (fun st => octet_Get_s1 t1 st.1 st.2) fuel st = some o → (o = res) →
    Leads Try.prog 101 0 (head101_1 t1 st.1 st.2) (fun v H _ => Res 0 (rx101 res) v H) := by
  intro fuel st o h hc
  refine iter_leads (head := fun st => head101_1 t1 st.1 st.2) (C := fun o => (o = res)) ?_ fuel st o h hc
  clear h hc o st fuel
  intro st o h hc
  obtain ⟨n, t37⟩ := st
  replace h : octet_Get_s1 t1 n t37 = some o := h
  show Leads Try.prog 101 0 (head101_1 t1 n t37) (fun v H _ => Res 0 (rx101 res) v H)
  unfold octet_Get_s1 at h
  refine ev_ok tab_ok hS true 3000 ?_
  conv => whnf
  refine br.h2 h ?_ ?_ ?_
  · rfl
  · clear h; intro hb h; conv => whnf
    all_goals (cases h; cases hc; exact Res.z rfl rfl rfl)
  clear h; intro hb h; conv => whnf
  replace h := oreq.elim h; obtain ⟨hb, h⟩ := h
  first | (refine req.intro hb ?_; conv => whnf) | skip
  replace h := obind.elim h; obtain ⟨e, hy, h⟩ := h
  refine rd.I hy (by first | rfl | (rw [Nat.zero_add, Nat.mul_one]; done) | omega) ?_
  conv => whnf
  let t2 : Int := iorI .u64 (wI .u64 (n * 2 ^ 8)) (wI .u64 e)
  cases h; simp only [Sum.elim_inl, head101_1] at hc
  refine Leads.re hc [(0, 0)] rfl ?_ ?_ <;> (repeat' first | exact trivial | refine ⟨⟨_, rfl, rfl⟩, ?_⟩ | refine ⟨⟨_, _, rfl, rfl, .rowF (vI_flat _ _) id⟩, ?_⟩ | refine ⟨⟨_, _, rfl, rfl, .rowF (vS_flat _) id⟩, ?_⟩ | refine ⟨⟨_, _, rfl, rfl, .rowF (vB_flat _) id⟩, ?_⟩ | refine ⟨⟨_, _, rfl, rfl, .rowF (vT_flat (by first | exact cicmp_Message_flat | exact capi_Addr_flat | exact coctet_Reader_flat | exact cArr2_Int_flat | exact cArr4_Arr2_Int_flat | exact cruntime_errorAddressString_flat | exact cudp_Head_flat | exact cipsix_Head_flat | exact cipfour_Head_flat | exact capi_Tuple_flat | exact ctcp_Head_flat) _) id⟩, ?_⟩ | refine ⟨⟨_, _, rfl, rfl, .tyF (vI_flat _ _)⟩, ?_⟩ | refine ⟨⟨_, _, rfl, rfl, .ty rfl⟩, ?_⟩ | refine ⟨⟨_, _, rfl, rfl, .cells rfl⟩, ?_⟩ | refine ⟨⟨_, _, rfl, rfl, .row rfl id⟩, ?_⟩ | refine ⟨⟨_, _, rfl, rfl, .cr rfl⟩, ?_⟩ | refine ⟨⟨_, _, rfl, rfl, .rc rfl⟩, ?_⟩ | refine ⟨⟨_, _, rfl, rfl, .marks⟩, ?_⟩ | refine ⟨⟨_, _, rfl, rfl, .siter _ _⟩, ?_⟩ | refine ⟨⟨_, _, rfl, rfl, .loop rfl rfl rfl rfl (by repeat' first | exact trivial | refine ⟨rfl, ?_⟩) rfl rfl rfl rfl⟩, ?_⟩)
theorem leads101 (hS : SumsOK Try.prog (aget (sums101))) (s : List UInt8) (ata1 : Int) (k : Int) (res : Int × Bool) (h : octet_GetF s ata1 k = some res) :
    Leads Try.prog 101 0 ⟨⟨101, 48, [(0, .string ⟨⟨s⟩⟩), (1, .int .i64 ata1), (2, .int .i64 k)], [.code k101_26], [], false, none⟩, [], [], 0⟩ (fun v H _ => Res 0 (rx101 res) v H) := by
  unfold octet_GetF at h
  refine ev_ok tab_ok hS true 3000 ?_
  conv => whnf
  refine br.h h ?_ ?_ ?_
  · rfl
  · clear h; intro hb h; conv => whnf
    all_goals (cases h; exact Res.z rfl rfl rfl)
  clear h; intro hb h; conv => whnf
  refine br.h h ?_ ?_ ?_
  · rfl
  · clear h; intro hb h; conv => whnf
    all_goals (cases h; exact Res.z rfl rfl rfl)
  clear h; intro hb h; conv => whnf
  refine br.h h ?_ ?_ ?_
  · rfl
  · clear h; intro hb h; conv => whnf
    all_goals (cases h; exact Res.z rfl rfl rfl)
  clear h; intro hb h; conv => whnf
  let t : Bool := decide ((wI .i64 ((s.length : Int) - k)) < ata1)
  refine br.h h ?_ ?_ ?_
  · rfl
  · clear h; intro hb h; conv => whnf
    all_goals (cases h; exact Res.z rfl rfl rfl)
  clear h; intro hb h; conv => whnf
  replace h := oreq.elim h; obtain ⟨hb, h⟩ := h
  first | (refine req.intro hb ?_; conv => whnf) | skip
  let t1 : List UInt8 := (s.drop ata1.toNat).take ((wI .i64 (ata1 + k)).toNat - ata1.toNat)
  refine pk_s2b ?_
  conv => whnf
  have hl := loop101_1 hS _ res _ _ _ h rfl; simp only [head101_1] at hl
  refine Leads.re hl [(0, 0)] rfl ?_ ?_ <;> (repeat' first | exact trivial | refine ⟨⟨_, rfl, rfl⟩, ?_⟩ | refine ⟨⟨_, _, rfl, rfl, .rowF (vI_flat _ _) id⟩, ?_⟩ | refine ⟨⟨_, _, rfl, rfl, .rowF (vS_flat _) id⟩, ?_⟩ | refine ⟨⟨_, _, rfl, rfl, .rowF (vB_flat _) id⟩, ?_⟩ | refine ⟨⟨_, _, rfl, rfl, .rowF (vT_flat (by first | exact cicmp_Message_flat | exact capi_Addr_flat | exact coctet_Reader_flat | exact cArr2_Int_flat | exact cArr4_Arr2_Int_flat | exact cruntime_errorAddressString_flat | exact cudp_Head_flat | exact cipsix_Head_flat | exact cipfour_Head_flat | exact capi_Tuple_flat | exact ctcp_Head_flat) _) id⟩, ?_⟩ | refine ⟨⟨_, _, rfl, rfl, .tyF (vI_flat _ _)⟩, ?_⟩ | refine ⟨⟨_, _, rfl, rfl, .ty rfl⟩, ?_⟩ | refine ⟨⟨_, _, rfl, rfl, .cells rfl⟩, ?_⟩ | refine ⟨⟨_, _, rfl, rfl, .row rfl id⟩, ?_⟩ | refine ⟨⟨_, _, rfl, rfl, .cr rfl⟩, ?_⟩ | refine ⟨⟨_, _, rfl, rfl, .rc rfl⟩, ?_⟩ | refine ⟨⟨_, _, rfl, rfl, .marks⟩, ?_⟩ | refine ⟨⟨_, _, rfl, rfl, .siter _ _⟩, ?_⟩ | refine ⟨⟨_, _, rfl, rfl, .loop rfl rfl rfl rfl (by repeat' first | exact trivial | refine ⟨rfl, ?_⟩) rfl rfl rfl rfl⟩, ?_⟩)
theorem ok101 (hS : SumsOK Try.prog (aget (sums101))) : SumOK Try.prog 101 (s101 (octet_GetF)) := by
  refine SumOK.of_leads tab_ok (fun ar os r ha hr => ?_) ⟨Try.f101, rfl, by decide, rfl⟩
  replace hr : r101 (octet_GetF) ar (conts os) = some r := hr
  unfold r101 at hr
  generalize hc : conts os = C at hr
  replace hr := dV.elim hr; obtain ⟨v0, l1, y0, rfl, e0, hr⟩ := hr; obtain rfl := asS_eq _ _ e0
  replace hr := dV.elim hr; obtain ⟨v1, l2, y1, rfl, e1, hr⟩ := hr; obtain rfl := asI_eq _ _ _ e1
  replace hr := dV.elim hr; obtain ⟨v2, l3, y2, rfl, e2, hr⟩ := hr; obtain rfl := asI_eq _ _ _ e2
  replace hr := dFin hr; obtain ⟨rfl, rfl, x, h, rfl⟩ := hr
  obtain rfl := kinds_nil hc
  exact ⟨_, rfl, leads101 hS _ _ _ x h⟩
def octet_Get : (List UInt8) → Int → Int → Option (Int × Bool) := octet_GetF
theorem lift101 : SumOK Try.prog 101 (s101 octet_Get) := ok101 (SumsOK.of_tab trivial)
def R02_Put_s1 (k : Int) (n1 : Int) (s : List UInt8) (i : Int) : Option (Sum (Int × (List UInt8) × Int) (List UInt8)) :=
  cond (decide (i < k))
    (
    cond (decide (k ≤ 8))
      (
      let t := [UInt8.ofNat (wI .u8 (n1.tmod 256)).toNat]
      oreq (decide (t.length + s.length < 2 ^ 63)) <|
      some (.inl (wI .u64 (n1.tdiv 256), t ++ s, wI .i64 (i + 1))))
      (
      some (.inr (s))))
    (
    some (.inr (s)))
def R02_PutF (n : Int) (k : Int) : Option (List UInt8) :=
  iter (fun st => R02_Put_s1 k st.1 st.2.1 st.2.2) FUEL (n, [], 0)
def rx67 (x : List UInt8) : SRes := ⟨.string ⟨⟨x⟩⟩, [], []⟩
def r67 (g : Int → Int → Option (List UInt8)) : Dec := dV (asI .u64) fun (y0 : Int) => dV (asI .i64) fun (y1 : Int) => dEnd (ofG (g y0 y1) rx67)
theorem r67_c {g : Int → Int → Option (List UInt8)} {y0 : Int} {y1 : Int} {x : List UInt8} (hx : g y0 y1 = some x) : r67 g [.int .u64 y0, .int .i64 y1] [] = some (rx67 x) := (dV_eq (asI_c _)).trans ((dV_eq (asI_c _)).trans (ofG_eq hx))
def s67 (g : Int → Int → Option (List UInt8)) : Summ := ⟨[.v, .v], r67 g⟩
theorem r67_eq {g : Int → Int → Option (List UInt8)} {y0 : Int} {y1 : Int} {x : List UInt8} (hx : g y0 y1 = some x) : (s67 g).run [.int .u64 y0, .int .i64 y1] [] = some (rx67 x) := r67_c hx
abbrev sums67 : List (Nat × Summ) := []
def head67_1 (k : Int) (n1 : Int) (s : List UInt8) (i : Int) : VM :=
  ⟨⟨67, 26, [(0, .int .u64 n1), (1, .int .i64 k), (5, .string ⟨⟨s⟩⟩), (6, .int .i64 i)], [.code k67_12, .inLoop k67_12, .inBlock 0, .code k67_17], [], false, none⟩, [], [], 0⟩
theorem loop67_1 (hS : SumsOK Try.prog (aget (sums67))) (k : Int) (res : List UInt8) : ∀ fuel (st : Int × (List UInt8) × Int) (o : List UInt8), iter (fun st => R02_Put_s1 k st.1 st.2.1 st.2.2) fuel st = some o → (o = res) →
    Leads Try.prog 67 0 (head67_1 k st.1 st.2.1 st.2.2) (fun v H _ => Res 0 (rx67 res) v H) := by
  intro fuel st o h hc
  refine iter_leads (head := fun st => head67_1 k st.1 st.2.1 st.2.2) (C := fun o => (o = res)) ?_ fuel st o h hc
  clear h hc o st fuel
  intro st o h hc
  obtain ⟨n1, s, i⟩ := st
  replace h : R02_Put_s1 k n1 s i = some o := h
  show Leads Try.prog 67 0 (head67_1 k n1 s i) (fun v H _ => Res 0 (rx67 res) v H)
  unfold R02_Put_s1 at h
  refine ev_ok tab_ok hS true 3000 ?_
  conv => whnf
  refine br.h2 h ?_ ?_ ?_
  · rfl
  · clear h; intro hb h; conv => whnf
    all_goals (cases h; cases hc; exact Res.z rfl rfl rfl)
  clear h; intro hb h; conv => whnf
  refine br.h2 h ?_ ?_ ?_
  · rfl
  · clear h; intro hb h; conv => whnf
    all_goals (cases h; cases hc; exact Res.z rfl rfl rfl)
  clear h; intro hb h; conv => whnf
  refine pk_b2sL rfl ?_
  conv => whnf
  let t : List UInt8 := [UInt8.ofNat (wI .u8 (n1.tmod 256)).toNat]
  replace h := oreq.elim h; obtain ⟨hb, h⟩ := h
  first | (refine req.intro hb ?_; conv => whnf) | skip
  cases h; simp only [Sum.elim_inl, head67_1] at hc
  refine Leads.re hc [] rfl ?_ ?_ <;> (repeat' first | exact trivial | refine ⟨⟨_, rfl, rfl⟩, ?_⟩ | refine ⟨⟨_, _, rfl, rfl, .rowF (vI_flat _ _) id⟩, ?_⟩ | refine ⟨⟨_, _, rfl, rfl, .rowF (vS_flat _) id⟩, ?_⟩ | refine ⟨⟨_, _, rfl, rfl, .rowF (vB_flat _) id⟩, ?_⟩ | refine ⟨⟨_, _, rfl, rfl, .rowF (vT_flat (by first | exact cicmp_Message_flat | exact capi_Addr_flat | exact coctet_Reader_flat | exact cArr2_Int_flat | exact cArr4_Arr2_Int_flat | exact cruntime_errorAddressString_flat | exact cudp_Head_flat | exact cipsix_Head_flat | exact cipfour_Head_flat | exact capi_Tuple_flat | exact ctcp_Head_flat) _) id⟩, ?_⟩ | refine ⟨⟨_, _, rfl, rfl, .tyF (vI_flat _ _)⟩, ?_⟩ | refine ⟨⟨_, _, rfl, rfl, .ty rfl⟩, ?_⟩ | refine ⟨⟨_, _, rfl, rfl, .cells rfl⟩, ?_⟩ | refine ⟨⟨_, _, rfl, rfl, .row rfl id⟩, ?_⟩ | refine ⟨⟨_, _, rfl, rfl, .cr rfl⟩, ?_⟩ | refine ⟨⟨_, _, rfl, rfl, .rc rfl⟩, ?_⟩ | refine ⟨⟨_, _, rfl, rfl, .marks⟩, ?_⟩ | refine ⟨⟨_, _, rfl, rfl, .siter _ _⟩, ?_⟩ | refine ⟨⟨_, _, rfl, rfl, .loop rfl rfl rfl rfl (by repeat' first | exact trivial | refine ⟨rfl, ?_⟩) rfl rfl rfl rfl⟩, ?_⟩)
theorem leads67 (hS : SumsOK Try.prog (aget (sums67))) (n : Int) (k : Int) (res : List UInt8) (h : R02_PutF n k = some res) :
    Leads Try.prog 67 0 ⟨⟨67, 26, [(0, .int .u64 n), (1, .int .i64 k)], [.code k67_20], [], false, none⟩, [], [], 0⟩ (fun v H _ => Res 0 (rx67 res) v H) := by
  unfold R02_PutF at h
  refine ev_ok tab_ok hS true 3000 ?_
  conv => whnf
  have hl := loop67_1 hS _ res _ _ _ h rfl; simp only [head67_1] at hl
  refine Leads.re hl [] rfl ?_ ?_ <;> (repeat' first | exact trivial | refine ⟨⟨_, rfl, rfl⟩, ?_⟩ | refine ⟨⟨_, _, rfl, rfl, .rowF (vI_flat _ _) id⟩, ?_⟩ | refine ⟨⟨_, _, rfl, rfl, .rowF (vS_flat _) id⟩, ?_⟩ | refine ⟨⟨_, _, rfl, rfl, .rowF (vB_flat _) id⟩, ?_⟩ | refine ⟨⟨_, _, rfl, rfl, .rowF (vT_flat (by first | exact cicmp_Message_flat | exact capi_Addr_flat | exact coctet_Reader_flat | exact cArr2_Int_flat | exact cArr4_Arr2_Int_flat | exact cruntime_errorAddressString_flat | exact cudp_Head_flat | exact cipsix_Head_flat | exact cipfour_Head_flat | exact capi_Tuple_flat | exact ctcp_Head_flat) _) id⟩, ?_⟩ | refine ⟨⟨_, _, rfl, rfl, .tyF (vI_flat _ _)⟩, ?_⟩ | refine ⟨⟨_, _, rfl, rfl, .ty rfl⟩, ?_⟩ | refine ⟨⟨_, _, rfl, rfl, .cells rfl⟩, ?_⟩ | refine ⟨⟨_, _, rfl, rfl, .row rfl id⟩, ?_⟩ | refine ⟨⟨_, _, rfl, rfl, .cr rfl⟩, ?_⟩ | refine ⟨⟨_, _, rfl, rfl, .rc rfl⟩, ?_⟩ | refine ⟨⟨_, _, rfl, rfl, .marks⟩, ?_⟩ | refine ⟨⟨_, _, rfl, rfl, .siter _ _⟩, ?_⟩ | refine ⟨⟨_, _, rfl, rfl, .loop rfl rfl rfl rfl (by repeat' first | exact trivial | refine ⟨rfl, ?_⟩) rfl rfl rfl rfl⟩, ?_⟩)
theorem ok67 (hS : SumsOK Try.prog (aget (sums67))) : SumOK Try.prog 67 (s67 (R02_PutF)) := by
  refine SumOK.of_leads tab_ok (fun ar os r ha hr => ?_) ⟨Try.f67, rfl, by decide, rfl⟩
  replace hr : r67 (R02_PutF) ar (conts os) = some r := hr
  unfold r67 at hr
  generalize hc : conts os = C at hr
  replace hr := dV.elim hr; obtain ⟨v0, l1, y0, rfl, e0, hr⟩ := hr; obtain rfl := asI_eq _ _ _ e0
  replace hr := dV.elim hr; obtain ⟨v1, l2, y1, rfl, e1, hr⟩ := hr; obtain rfl := asI_eq _ _ _ e1
  replace hr := dFin hr; obtain ⟨rfl, rfl, x, h, rfl⟩ := hr
  obtain rfl := kinds_nil hc
  exact ⟨_, rfl, leads67 hS _ _ x h⟩
def R02_Put : Int → Int → Option (List UInt8) := R02_PutF
theorem lift67 : SumOK Try.prog 67 (s67 R02_Put) := ok67 (SumsOK.of_tab trivial)
def R02_Get_s1 (s : List UInt8) (ata1 : Int) (k : Int) (n : Int) (i : Int) : Option (Sum (Int × Int) (Int × Bool)) :=
  cond (decide (i < k))
    (
    oreq (decide (0 ≤ (wI .i64 (ata1 + i)))) <|
    (s[(wI .i64 (ata1 + i)).toNat]?).bind fun (b : UInt8) =>
    let t1 := wI .u64 ((wI .u64 (n * 256)) + (wI .u64 (b.toNat : Int)))
    some (.inl (t1, wI .i64 (i + 1))))
    (
    some (.inr ((n, true))))
def R02_GetF (s : List UInt8) (ata1 : Int) (k : Int) : Option (Int × Bool) :=
  cond (decide (k < 1))
    (
    some ((0, false)))
    (
    cond (decide (k > 8))
      (
      some ((0, false)))
      (
      cond (decide (ata1 < 0))
        (
        some ((0, false)))
        (
        cond (decide (ata1 > (s.length : Int)))
          (
          some ((0, false)))
          (
          let t := decide (k > (wI .i64 ((s.length : Int) - ata1)))
          cond (t)
            (
            some ((0, false)))
            (
            iter (fun st => R02_Get_s1 s ata1 k st.1 st.2) FUEL (0, 0))))))
def rx114 (x : Int × Bool) : SRes := ⟨.tuple ⟨[.int .u64 x.1, .bool x.2]⟩, [], []⟩
def r114 (g : (List UInt8) → Int → Int → Option (Int × Bool)) : Dec := dV asS fun (y0 : List UInt8) => dV (asI .i64) fun (y1 : Int) => dV (asI .i64) fun (y2 : Int) => dEnd (ofG (g y0 y1 y2) rx114)
theorem r114_c {g : (List UInt8) → Int → Int → Option (Int × Bool)} {y0 : List UInt8} {y1 : Int} {y2 : Int} {x : Int × Bool} (hx : g y0 y1 y2 = some x) : r114 g [.string ⟨⟨y0⟩⟩, .int .i64 y1, .int .i64 y2] [] = some (rx114 x) := (dV_eq (asS_c)).trans ((dV_eq (asI_c _)).trans ((dV_eq (asI_c _)).trans (ofG_eq hx)))
def s114 (g : (List UInt8) → Int → Int → Option (Int × Bool)) : Summ := ⟨[.v, .v, .v], r114 g⟩
theorem r114_eq {g : (List UInt8) → Int → Int → Option (Int × Bool)} {y0 : List UInt8} {y1 : Int} {y2 : Int} {x : Int × Bool} (hx : g y0 y1 y2 = some x) : (s114 g).run [.string ⟨⟨y0⟩⟩, .int .i64 y1, .int .i64 y2] [] = some (rx114 x) := r114_c hx
abbrev sums114 : List (Nat × Summ) := []
def head114_1 (s : List UInt8) (ata1 : Int) (k : Int) (n : Int) (i : Int) : VM :=
  ⟨⟨114, 49, [(0, .string ⟨⟨s⟩⟩), (1, .int .i64 ata1), (2, .int .i64 k), (8, .int .u64 n), (9, .int .i64 i)], [.code k114_15, .inLoop k114_15, .inBlock 0, .code k114_20], [], false, none⟩, [], [], 0⟩
theorem loop114_1 (hS : SumsOK Try.prog (aget (sums114))) (s : List UInt8) (ata1 : Int) (k : Int) (res : Int × Bool) : ∀ fuel (st : Int × Int) (o : Int × Bool), iter (fun st => R02_Get_s1 s ata1 k st.1 st.2) fuel st = some o → (o = res) →
    Leads Try.prog 114 0 (head114_1 s ata1 k st.1 st.2) (fun v H _ => Res 0 (rx114 res) v H) := by
  intro fuel st o h hc
  refine iter_leads (head := fun st => head114_1 s ata1 k st.1 st.2) (C := fun o => (o = res)) ?_ fuel st o h hc
  clear h hc o st fuel
  intro st o h hc
  obtain ⟨n, i⟩ := st
  replace h : R02_Get_s1 s ata1 k n i = some o := h
  show Leads Try.prog 114 0 (head114_1 s ata1 k n i) (fun v H _ => Res 0 (rx114 res) v H)
  unfold R02_Get_s1 at h
  refine ev_ok tab_ok hS true 3000 ?_
  conv => whnf
  refine br.h2 h ?_ ?_ ?_
  · rfl
  · clear h; intro hb h; conv => whnf
    all_goals (cases h; cases hc; exact Res.z rfl rfl rfl)
  clear h; intro hb h; conv => whnf
  replace h := oreq.elim h; obtain ⟨hb, h⟩ := h
  first | (refine req.intro hb ?_; conv => whnf) | skip
  replace h := obind.elim h; obtain ⟨b, hy, h⟩ := h
  refine rdS.intro hy ?_
  conv => whnf
  let t1 : Int := wI .u64 ((wI .u64 (n * 256)) + (wI .u64 (b.toNat : Int)))
  cases h; simp only [Sum.elim_inl, head114_1] at hc
  refine Leads.re hc [] rfl ?_ ?_ <;> (repeat' first | exact trivial | refine ⟨⟨_, rfl, rfl⟩, ?_⟩ | refine ⟨⟨_, _, rfl, rfl, .rowF (vI_flat _ _) id⟩, ?_⟩ | refine ⟨⟨_, _, rfl, rfl, .rowF (vS_flat _) id⟩, ?_⟩ | refine ⟨⟨_, _, rfl, rfl, .rowF (vB_flat _) id⟩, ?_⟩ | refine ⟨⟨_, _, rfl, rfl, .rowF (vT_flat (by first | exact cicmp_Message_flat | exact capi_Addr_flat | exact coctet_Reader_flat | exact cArr2_Int_flat | exact cArr4_Arr2_Int_flat | exact cruntime_errorAddressString_flat | exact cudp_Head_flat | exact cipsix_Head_flat | exact cipfour_Head_flat | exact capi_Tuple_flat | exact ctcp_Head_flat) _) id⟩, ?_⟩ | refine ⟨⟨_, _, rfl, rfl, .tyF (vI_flat _ _)⟩, ?_⟩ | refine ⟨⟨_, _, rfl, rfl, .ty rfl⟩, ?_⟩ | refine ⟨⟨_, _, rfl, rfl, .cells rfl⟩, ?_⟩ | refine ⟨⟨_, _, rfl, rfl, .row rfl id⟩, ?_⟩ | refine ⟨⟨_, _, rfl, rfl, .cr rfl⟩, ?_⟩ | refine ⟨⟨_, _, rfl, rfl, .rc rfl⟩, ?_⟩ | refine ⟨⟨_, _, rfl, rfl, .marks⟩, ?_⟩ | refine ⟨⟨_, _, rfl, rfl, .siter _ _⟩, ?_⟩ | refine ⟨⟨_, _, rfl, rfl, .loop rfl rfl rfl rfl (by repeat' first | exact trivial | refine ⟨rfl, ?_⟩) rfl rfl rfl rfl⟩, ?_⟩)
theorem leads114 (hS : SumsOK Try.prog (aget (sums114))) (s : List UInt8) (ata1 : Int) (k : Int) (res : Int × Bool) (h : R02_GetF s ata1 k = some res) :
    Leads Try.prog 114 0 ⟨⟨114, 49, [(0, .string ⟨⟨s⟩⟩), (1, .int .i64 ata1), (2, .int .i64 k)], [.code k114_24], [], false, none⟩, [], [], 0⟩ (fun v H _ => Res 0 (rx114 res) v H) := by
  unfold R02_GetF at h
  refine ev_ok tab_ok hS true 3000 ?_
  conv => whnf
  refine br.h h ?_ ?_ ?_
  · rfl
  · clear h; intro hb h; conv => whnf
    all_goals (cases h; exact Res.z rfl rfl rfl)
  clear h; intro hb h; conv => whnf
  refine br.h h ?_ ?_ ?_
  · rfl
  · clear h; intro hb h; conv => whnf
    all_goals (cases h; exact Res.z rfl rfl rfl)
  clear h; intro hb h; conv => whnf
  refine br.h h ?_ ?_ ?_
  · rfl
  · clear h; intro hb h; conv => whnf
    all_goals (cases h; exact Res.z rfl rfl rfl)
  clear h; intro hb h; conv => whnf
  refine br.h h ?_ ?_ ?_
  · rfl
  · clear h; intro hb h; conv => whnf
    all_goals (cases h; exact Res.z rfl rfl rfl)
  clear h; intro hb h; conv => whnf
  let t : Bool := decide (k > (wI .i64 ((s.length : Int) - ata1)))
  refine br.h h ?_ ?_ ?_
  · rfl
  · clear h; intro hb h; conv => whnf
    all_goals (cases h; exact Res.z rfl rfl rfl)
  clear h; intro hb h; conv => whnf
  have hl := loop114_1 hS _ _ _ res _ _ _ h rfl; simp only [head114_1] at hl
  refine Leads.re hl [] rfl ?_ ?_ <;> (repeat' first | exact trivial | refine ⟨⟨_, rfl, rfl⟩, ?_⟩ | refine ⟨⟨_, _, rfl, rfl, .rowF (vI_flat _ _) id⟩, ?_⟩ | refine ⟨⟨_, _, rfl, rfl, .rowF (vS_flat _) id⟩, ?_⟩ | refine ⟨⟨_, _, rfl, rfl, .rowF (vB_flat _) id⟩, ?_⟩ | refine ⟨⟨_, _, rfl, rfl, .rowF (vT_flat (by first | exact cicmp_Message_flat | exact capi_Addr_flat | exact coctet_Reader_flat | exact cArr2_Int_flat | exact cArr4_Arr2_Int_flat | exact cruntime_errorAddressString_flat | exact cudp_Head_flat | exact cipsix_Head_flat | exact cipfour_Head_flat | exact capi_Tuple_flat | exact ctcp_Head_flat) _) id⟩, ?_⟩ | refine ⟨⟨_, _, rfl, rfl, .tyF (vI_flat _ _)⟩, ?_⟩ | refine ⟨⟨_, _, rfl, rfl, .ty rfl⟩, ?_⟩ | refine ⟨⟨_, _, rfl, rfl, .cells rfl⟩, ?_⟩ | refine ⟨⟨_, _, rfl, rfl, .row rfl id⟩, ?_⟩ | refine ⟨⟨_, _, rfl, rfl, .cr rfl⟩, ?_⟩ | refine ⟨⟨_, _, rfl, rfl, .rc rfl⟩, ?_⟩ | refine ⟨⟨_, _, rfl, rfl, .marks⟩, ?_⟩ | refine ⟨⟨_, _, rfl, rfl, .siter _ _⟩, ?_⟩ | refine ⟨⟨_, _, rfl, rfl, .loop rfl rfl rfl rfl (by repeat' first | exact trivial | refine ⟨rfl, ?_⟩) rfl rfl rfl rfl⟩, ?_⟩)
theorem ok114 (hS : SumsOK Try.prog (aget (sums114))) : SumOK Try.prog 114 (s114 (R02_GetF)) := by
  refine SumOK.of_leads tab_ok (fun ar os r ha hr => ?_) ⟨Try.f114, rfl, by decide, rfl⟩
  replace hr : r114 (R02_GetF) ar (conts os) = some r := hr
  unfold r114 at hr
  generalize hc : conts os = C at hr
  replace hr := dV.elim hr; obtain ⟨v0, l1, y0, rfl, e0, hr⟩ := hr; obtain rfl := asS_eq _ _ e0
  replace hr := dV.elim hr; obtain ⟨v1, l2, y1, rfl, e1, hr⟩ := hr; obtain rfl := asI_eq _ _ _ e1
  replace hr := dV.elim hr; obtain ⟨v2, l3, y2, rfl, e2, hr⟩ := hr; obtain rfl := asI_eq _ _ _ e2
  replace hr := dFin hr; obtain ⟨rfl, rfl, x, h, rfl⟩ := hr
  obtain rfl := kinds_nil hc
  exact ⟨_, rfl, leads114 hS _ _ _ x h⟩
def R02_Get : (List UInt8) → Int → Int → Option (Int × Bool) := R02_GetF
theorem lift114 : SumOK Try.prog 114 (s114 R02_Get) := ok114 (SumsOK.of_tab trivial)
def R02_MustF (R02_Get : (List UInt8) → Int → Int → Option (Int × Bool)) (s : List UInt8) (ata1 : Int) (k : Int) : Option Int :=
  (R02_Get s ata1 k).bind fun xg =>
  some (wI .i64 xg.1)
def rx74 (x : Int) : SRes := ⟨.int .i64 x, [], []⟩
def r74 (g : (List UInt8) → Int → Int → Option Int) : Dec := dV asS fun (y0 : List UInt8) => dV (asI .i64) fun (y1 : Int) => dV (asI .i64) fun (y2 : Int) => dEnd (ofG (g y0 y1 y2) rx74)
theorem r74_c {g : (List UInt8) → Int → Int → Option Int} {y0 : List UInt8} {y1 : Int} {y2 : Int} {x : Int} (hx : g y0 y1 y2 = some x) : r74 g [.string ⟨⟨y0⟩⟩, .int .i64 y1, .int .i64 y2] [] = some (rx74 x) := (dV_eq (asS_c)).trans ((dV_eq (asI_c _)).trans ((dV_eq (asI_c _)).trans (ofG_eq hx)))
def s74 (g : (List UInt8) → Int → Int → Option Int) : Summ := ⟨[.v, .v, .v], r74 g⟩
theorem r74_eq {g : (List UInt8) → Int → Int → Option Int} {y0 : List UInt8} {y1 : Int} {y2 : Int} {x : Int} (hx : g y0 y1 y2 = some x) : (s74 g).run [.string ⟨⟨y0⟩⟩, .int .i64 y1, .int .i64 y2] [] = some (rx74 x) := r74_c hx
abbrev sums74 (R02_Get : (List UInt8) → Int → Int → Option (Int × Bool)) : List (Nat × Summ) := [(114, s114 R02_Get)]
theorem leads74 (R02_Get : (List UInt8) → Int → Int → Option (Int × Bool)) (hS : SumsOK Try.prog (aget (sums74 R02_Get))) (s : List UInt8) (ata1 : Int) (k : Int) (res : Int) (h : R02_MustF R02_Get s ata1 k = some res) :
    Leads Try.prog 74 0 ⟨⟨74, 18, [(0, .string ⟨⟨s⟩⟩), (1, .int .i64 ata1), (2, .int .i64 k)], [.code k74_5], [], false, none⟩, [], [], 0⟩ (fun v H _ => Res 0 (rx74 res) v H) := by
  unfold R02_MustF at h
  refine ev_ok tab_ok hS true 3000 ?_
  conv => whnf
  replace h := obind.elim h; obtain ⟨xg, hy, h⟩ := h
  refine sumK.q rfl rfl (r114_eq hy) rfl rfl rfl ?_
  conv => whnf
  all_goals (cases h; exact Res.z rfl rfl rfl)
theorem ok74 (R02_Get : (List UInt8) → Int → Int → Option (Int × Bool)) (hS : SumsOK Try.prog (aget (sums74 R02_Get))) : SumOK Try.prog 74 (s74 (R02_MustF R02_Get)) := by
  refine SumOK.of_leads tab_ok (fun ar os r ha hr => ?_) ⟨Try.f74, rfl, by decide, rfl⟩
  replace hr : r74 (R02_MustF R02_Get) ar (conts os) = some r := hr
  unfold r74 at hr
  generalize hc : conts os = C at hr
  replace hr := dV.elim hr; obtain ⟨v0, l1, y0, rfl, e0, hr⟩ := hr; obtain rfl := asS_eq _ _ e0
  replace hr := dV.elim hr; obtain ⟨v1, l2, y1, rfl, e1, hr⟩ := hr; obtain rfl := asI_eq _ _ _ e1
  replace hr := dV.elim hr; obtain ⟨v2, l3, y2, rfl, e2, hr⟩ := hr; obtain rfl := asI_eq _ _ _ e2
  replace hr := dFin hr; obtain ⟨rfl, rfl, x, h, rfl⟩ := hr
  obtain rfl := kinds_nil hc
  exact ⟨_, rfl, leads74 R02_Get hS _ _ _ x h⟩
def R02_Must : (List UInt8) → Int → Int → Option Int := R02_MustF R02_Get
theorem lift74 : SumOK Try.prog 74 (s74 R02_Must) := ok74 R02_Get (SumsOK.of_tab ⟨lift114, trivial⟩)
end Go.Vm.Code
namespace Go.Vm.Code
open Go Go.Vm
def putS (n k : Int) : List UInt8 := if 1 ≤ k ∧ k ≤ 8 then be n.toNat k.toNat else []
theorem R02_Put_eq {n k : Int} (h0 : 0 ≤ n) (h1 : n < 2 ^ 64) : R02_Put n k = some (putS n k) := by
  unfold R02_Put R02_PutF putS
  obtain ⟨m, rfl⟩ := Int.eq_ofNat_of_zero_le h0
  by_cases hk : 1 ≤ k ∧ k ≤ 8
  · rw [if_pos hk]
    obtain ⟨j, rfl⟩ := Int.eq_ofNat_of_zero_le (show 0 ≤ k by omega)
    have key := iter_eq (step := fun st => R02_Put_s1 (j : Int) st.1 st.2.1 st.2.2) (fun st => be st.1.toNat (j - st.2.2.toNat) ++ st.2.1) (fun st => 0 ≤ st.1 ∧ st.1 < 2 ^ 64 ∧ 0 ≤ st.2.2 ∧ st.2.2 ≤ j ∧ st.2.1.length < 2 ^ 20 + st.2.2.toNat) (fun st => (j - st.2.2).toNat) ?_ FUEL ((m : Int), [], 0) ⟨by simp, by simp only; omega, by simp, by simp, by simp⟩ (by rw [FUEL_eq]; simp only; omega)
    · rw [key]; simp
    rintro ⟨n, s, p⟩ ⟨g1, g2, g3, g4, g5⟩
    simp only at g1 g2 g3 g4 g5 ⊢
    obtain ⟨i, rfl⟩ := Int.eq_ofNat_of_zero_le g3
    obtain ⟨x, rfl⟩ := Int.eq_ofNat_of_zero_le g1
    unfold R02_Put_s1
    by_cases hp : i < j
    · refine .inr ⟨(((x / 256 : Nat) : Int), UInt8.ofNat x :: s, ((i + 1 : Nat) : Int)), ?_, ⟨by simp only; omega, by simp only; omega, by simp only; omega, by simp only; omega, by simp at g5 ⊢; omega⟩, by simp only; omega, ?_⟩
      · have e1 : (x : Int).tmod 256 = ((x % 256 : Nat) : Int) := by rw [Int.tmod_eq_emod_of_nonneg (by omega)]; rfl
        have e2 : (x : Int).tdiv 256 = ((x / 256 : Nat) : Int) := by rw [Int.tdiv_eq_ediv_of_nonneg (by omega)]; rfl
        rw [cond_p (by omega), cond_p (by omega), e1, e2, wU8 (by omega) (by omega)]
        simp only [List.length_cons, List.length_nil]
        rw [oreq_p (by omega), wU64 (by omega) (by omega), wI64 (by omega) (by omega), Int.toNat_natCast]
        have e3 : UInt8.ofNat (x % 256) = UInt8.ofNat x := by apply UInt8.toNat_inj.1; simp
        rw [e3]; rfl
      · simp only [Int.toNat_natCast]
        have e2 : j - i = (j - (i + 1)) + 1 := by omega
        rw [e2, be_snoc]; simp
    · refine .inl ?_
      obtain rfl : i = j := by omega
      rw [cond_n (by omega)]
      simp [be]
  · rw [if_neg hk]
    show iter _ (18446744073709551615 + 1) _ = _
    rw [iter]
    have : R02_Put_s1 k (m : Int) [] 0 = some (.inr []) := by
      unfold R02_Put_s1
      by_cases h2 : 0 < k
      · rw [cond_p h2, cond_n (by omega)]
      · rw [cond_n h2]
    simp only [this]
def getS (s : List UInt8) (p k : Int) : Int × Bool := if 1 ≤ k ∧ k ≤ 8 ∧ 0 ≤ p ∧ p + k ≤ s.length then (((valL ((s.drop p.toNat).take k.toNat) : Nat) : Int), true) else (0, false)
theorem pow_step {v i : Nat} (h : v < 256 ^ i) (hi : i ≤ 7) : v < 2 ^ 56 := Nat.lt_of_lt_of_le h (by
  have : (256 : Nat) ^ i ≤ 256 ^ 7 := Nat.pow_le_pow_right (by decide) hi
  simpa using this)
theorem octet_Get_eq {s : List UInt8} {p k : Int} (hs : s.length < 2 ^ 61) : octet_Get s p k = some (getS s p k) := by
  unfold octet_Get octet_GetF getS
  by_cases h1 : k < 1
  · rw [cond_p h1, if_neg (by omega)]
  by_cases h2 : k > 8
  · rw [cond_n h1, cond_p h2, if_neg (by omega)]
  by_cases h3 : p < 0
  · rw [cond_n h1, cond_n h2, cond_p h3, if_neg (by omega)]
  rw [cond_n h1, cond_n h2, cond_n h3, wI64 (n := (s.length : Int) - k) (by omega) (by omega)]
  by_cases h4 : (s.length : Int) - k < p
  · simp only []
    rw [cond_p h4, if_neg (by omega)]
  simp only []
  rw [cond_n h4, wI64 (n := p + k) (by omega) (by omega), oreq_p (by omega), if_pos (by omega)]
  obtain ⟨q, rfl⟩ := Int.eq_ofNat_of_zero_le (show 0 ≤ p by omega)
  obtain ⟨j, rfl⟩ := Int.eq_ofNat_of_zero_le (show 0 ≤ k by omega)
  have e : ((q : Int) + j).toNat - (q : Int).toNat = j := by omega
  rw [e]
  simp only [Int.toNat_natCast]
  generalize ht : (s.drop q).take j = t
  have hl : t.length = j := by rw [← ht]; simp; omega
  have key := iter_eq (step := fun st => octet_Get_s1 t st.1 st.2) (fun st => (((st.1.toNat * 256 ^ (j - st.2.toNat) + valL (t.drop st.2.toNat) : Nat) : Int), true)) (fun st => 0 ≤ st.1 ∧ 0 ≤ st.2 ∧ st.2 ≤ j ∧ st.1.toNat < 256 ^ st.2.toNat) (fun st => (j - st.2).toNat) ?_ FUEL (0, 0) ⟨by simp, by simp, by simp, by simp⟩ (by rw [FUEL_eq]; simp only; omega)
  · rw [key]; simp
  rintro ⟨n, x⟩ ⟨g1, g2, g3, g4⟩
  simp only at g1 g2 g3 g4 ⊢
  obtain ⟨i, rfl⟩ := Int.eq_ofNat_of_zero_le g2
  obtain ⟨v, rfl⟩ := Int.eq_ofNat_of_zero_le g1
  simp only [Int.toNat_natCast] at g4 ⊢
  unfold octet_Get_s1
  by_cases hp : i < j
  · have hlt : i < t.length := by omega
    have hb := t[i].toNat_lt
    have hv := pow_step g4 (by omega)
    refine .inr ⟨(((v * 256 + t[i].toNat : Nat) : Int), ((i + 1 : Nat) : Int)), ?_, ⟨by simp only; omega, by simp only; omega, by simp only; omega, ?_⟩, by simp only; omega, ?_⟩
    · rw [cond_p (by omega), oreq_p (by omega)]
      have e1 : (bI t)[(i : Int).toNat]? = some (t[i].toNat : Int) := by simp [bI, hlt]
      rw [e1, Option.bind_some]
      have e2 : iorI .u64 (wI .u64 ((v : Int) * 2 ^ 8)) (wI .u64 (t[i].toNat : Int)) = ((v * 256 + t[i].toNat : Nat) : Int) := by
        rw [wU64 (by omega) (by omega), wU64 (by omega) (by omega), iorU64_low 8 (by omega) (by omega) (by omega) (by omega) (by omega)]; omega
      simp only [e2]
      rw [wI64 (by omega) (by omega)]; rfl
    · simp only [Int.toNat_natCast]
      rw [Nat.pow_succ]; omega
    · simp only [Int.toNat_natCast]
      rw [List.drop_eq_getElem_cons hlt, val_cons]
      have e3 : (t.drop (i + 1)).length = j - (i + 1) := by simp; omega
      have e4 : j - i = (j - (i + 1)) + 1 := by omega
      rw [e3, e4, Nat.pow_succ, Nat.add_mul, Nat.mul_assoc, Nat.mul_comm 256, Nat.add_assoc]
  · refine .inl ?_
    obtain rfl : i = j := by omega
    rw [cond_n (by omega)]
    simp [← hl]
theorem R02_Get_eq {s : List UInt8} {p k : Int} (hs : s.length < 2 ^ 61) : R02_Get s p k = some (getS s p k) := by
  unfold R02_Get R02_GetF getS
  by_cases h1 : k < 1
  · rw [cond_p h1, if_neg (by omega)]
  by_cases h2 : k > 8
  · rw [cond_n h1, cond_p h2, if_neg (by omega)]
  by_cases h3 : p < 0
  · rw [cond_n h1, cond_n h2, cond_p h3, if_neg (by omega)]
  by_cases h5 : p > s.length
  · rw [cond_n h1, cond_n h2, cond_n h3, cond_p h5, if_neg (by omega)]
  rw [cond_n h1, cond_n h2, cond_n h3, cond_n h5, wI64 (n := (s.length : Int) - p) (by omega) (by omega)]
  by_cases h4 : k > (s.length : Int) - p
  · simp only []
    rw [cond_p h4, if_neg (by omega)]
  simp only []
  rw [cond_n h4, if_pos (by omega)]
  obtain ⟨q, rfl⟩ := Int.eq_ofNat_of_zero_le (show 0 ≤ p by omega)
  obtain ⟨j, rfl⟩ := Int.eq_ofNat_of_zero_le (show 0 ≤ k by omega)
  simp only [Int.toNat_natCast]
  generalize ht : (s.drop q).take j = t
  have hl : t.length = j := by rw [← ht]; simp; omega
  have key := iter_eq (step := fun st => R02_Get_s1 s (q : Int) (j : Int) st.1 st.2) (fun st => (((st.1.toNat * 256 ^ (j - st.2.toNat) + valL (t.drop st.2.toNat) : Nat) : Int), true)) (fun st => 0 ≤ st.1 ∧ 0 ≤ st.2 ∧ st.2 ≤ j ∧ st.1.toNat < 256 ^ st.2.toNat) (fun st => (j - st.2).toNat) ?_ FUEL (0, 0) ⟨by simp, by simp, by simp, by simp⟩ (by rw [FUEL_eq]; simp only; omega)
  · rw [key]; simp
  rintro ⟨n, x⟩ ⟨g1, g2, g3, g4⟩
  simp only at g1 g2 g3 g4 ⊢
  obtain ⟨i, rfl⟩ := Int.eq_ofNat_of_zero_le g2
  obtain ⟨v, rfl⟩ := Int.eq_ofNat_of_zero_le g1
  simp only [Int.toNat_natCast] at g4 ⊢
  unfold R02_Get_s1
  by_cases hp : i < j
  · have hlt : i < t.length := by omega
    have hb := t[i].toNat_lt
    have hv := pow_step g4 (by omega)
    refine .inr ⟨(((v * 256 + t[i].toNat : Nat) : Int), ((i + 1 : Nat) : Int)), ?_, ⟨by simp only; omega, by simp only; omega, by simp only; omega, ?_⟩, by simp only; omega, ?_⟩
    · rw [cond_p (by omega), wI64 (n := (q : Int) + i) (by omega) (by omega), oreq_p (by omega)]
      have e0 : ((q : Int) + i).toNat = q + i := by omega
      have e1 : s[q + i]? = some t[i] := by
        subst ht
        rw [List.getElem?_eq_getElem (by omega)]
        simp
      rw [e0, e1, Option.bind_some]
      have e2 : wI .u64 ((wI .u64 ((v : Int) * 256)) + (wI .u64 (t[i].toNat : Int))) = ((v * 256 + t[i].toNat : Nat) : Int) := by
        rw [wU64 (n := (v : Int) * 256) (by omega) (by omega), wU64 (n := (t[i].toNat : Int)) (by omega) (by omega), wU64 (by omega) (by omega)]; omega
      simp only [e2]
      rw [wI64 (by omega) (by omega)]; rfl
    · simp only [Int.toNat_natCast]
      rw [Nat.pow_succ]; omega
    · simp only [Int.toNat_natCast]
      rw [List.drop_eq_getElem_cons hlt, val_cons]
      have e3 : (t.drop (i + 1)).length = j - (i + 1) := by simp; omega
      have e4 : j - i = (j - (i + 1)) + 1 := by omega
      rw [e3, e4, Nat.pow_succ, Nat.add_mul, Nat.mul_assoc, Nat.mul_comm 256, Nat.add_assoc]
  · refine .inl ?_
    obtain rfl : i = j := by omega
    rw [cond_n (by omega)]
    simp [← hl]
theorem R02_Must_eq {s : List UInt8} {p k : Int} (hs : s.length < 2 ^ 61) : R02_Must s p k = some (wI .i64 (getS s p k).1) := by
  unfold R02_Must R02_MustF
  rw [R02_Get_eq hs]; rfl
end Go.Vm.Code
namespace Go.Vm.Code
open Go Go.Vm Go.Proofs
set_option maxRecDepth 100000
set_option maxHeartbeats 4000000
set_option linter.unusedVariables false
def check_SetF (octet_Put : Int → Int → Option (List UInt8)) (s : List UInt8) (ata1 : Int) (k : Int) (n : Int) : Option (List UInt8) :=
  (octet_Put n k).bind fun p =>
  cond (p == [])
    (
    some (s))
    (
    cond (decide (ata1 < 0))
      (
      some (s))
      (
      let t := decide ((wI .i64 ((s.length : Int) - k)) < ata1)
      cond (t)
        (
        some (s))
        (
        oreq (decide ((0 : Int) ≤ ata1 ∧ ata1 ≤ (s.length : Int))) <|
        oreq (decide ((s.take ata1.toNat).length + p.length < 2 ^ 63)) <|
        oreq (decide ((0 : Int) ≤ (wI .i64 (ata1 + k)) ∧ (wI .i64 (ata1 + k)) ≤ (s.length : Int))) <|
        let t1 := (s.drop (wI .i64 (ata1 + k)).toNat).take (s.length - (wI .i64 (ata1 + k)).toNat)
        oreq (decide (((s.take ata1.toNat) ++ p).length + t1.length < 2 ^ 63)) <|
        some (((s.take ata1.toNat) ++ p) ++ t1))))
def rx65 (x : List UInt8) : SRes := ⟨.string ⟨⟨x⟩⟩, [], []⟩
def r65 (g : (List UInt8) → Int → Int → Int → Option (List UInt8)) : Dec := dV asS fun (y0 : List UInt8) => dV (asI .i64) fun (y1 : Int) => dV (asI .i64) fun (y2 : Int) => dV (asI .u64) fun (y3 : Int) => dEnd (ofG (g y0 y1 y2 y3) rx65)
theorem r65_c {g : (List UInt8) → Int → Int → Int → Option (List UInt8)} {y0 : List UInt8} {y1 : Int} {y2 : Int} {y3 : Int} {x : List UInt8} (hx : g y0 y1 y2 y3 = some x) : r65 g [.string ⟨⟨y0⟩⟩, .int .i64 y1, .int .i64 y2, .int .u64 y3] [] = some (rx65 x) := (dV_eq (asS_c)).trans ((dV_eq (asI_c _)).trans ((dV_eq (asI_c _)).trans ((dV_eq (asI_c _)).trans (ofG_eq hx))))
def s65 (g : (List UInt8) → Int → Int → Int → Option (List UInt8)) : Summ := ⟨[.v, .v, .v, .v], r65 g⟩
theorem r65_eq {g : (List UInt8) → Int → Int → Int → Option (List UInt8)} {y0 : List UInt8} {y1 : Int} {y2 : Int} {y3 : Int} {x : List UInt8} (hx : g y0 y1 y2 y3 = some x) : (s65 g).run [.string ⟨⟨y0⟩⟩, .int .i64 y1, .int .i64 y2, .int .u64 y3] [] = some (rx65 x) := r65_c hx
abbrev sums65 (octet_Put : Int → Int → Option (List UInt8)) : List (Nat × Summ) := [(62, s62 octet_Put)]
theorem leads65 (octet_Put : Int → Int → Option (List UInt8)) (hS : SumsOK Try.prog (aget (sums65 octet_Put))) (s : List UInt8) (ata1 : Int) (k : Int) (n : Int) (res : List UInt8) (h : check_SetF octet_Put s ata1 k n = some res) :
    Leads Try.prog 65 0 ⟨⟨65, 39, [(0, .string ⟨⟨s⟩⟩), (1, .int .i64 ata1), (2, .int .i64 k), (3, .int .u64 n)], [.code k65_11], [], false, none⟩, [], [], 0⟩ (fun v H _ => Res 0 (rx65 res) v H) := by
  unfold check_SetF at h
  refine ev_ok tab_ok hS true 3000 ?_
  conv => whnf
  replace h := obind.elim h; obtain ⟨p, hy, h⟩ := h
  refine sumK.q rfl rfl (r62_eq hy) rfl rfl rfl ?_
  conv => whnf
  refine br.h h ?_ ?_ ?_
  · rfl
  · clear h; intro hb h; conv => whnf
    all_goals (cases h; exact Res.z rfl rfl rfl)
  clear h; intro hb h; conv => whnf
  refine br.h h ?_ ?_ ?_
  · rfl
  · clear h; intro hb h; conv => whnf
    all_goals (cases h; exact Res.z rfl rfl rfl)
  clear h; intro hb h; conv => whnf
  let t : Bool := decide ((wI .i64 ((s.length : Int) - k)) < ata1)
  refine br.h h ?_ ?_ ?_
  · rfl
  · clear h; intro hb h; conv => whnf
    all_goals (cases h; exact Res.z rfl rfl rfl)
  clear h; intro hb h; conv => whnf
  replace h := oreq.elim h; obtain ⟨hb, h⟩ := h
  first | (refine req.intro hb ?_; conv => whnf) | skip
  replace h := oreq.elim h; obtain ⟨hb, h⟩ := h
  first | (refine req.intro hb ?_; conv => whnf) | skip
  replace h := oreq.elim h; obtain ⟨hb, h⟩ := h
  first | (refine req.intro hb ?_; conv => whnf) | skip
  let t1 : List UInt8 := (s.drop (wI .i64 (ata1 + k)).toNat).take (s.length - (wI .i64 (ata1 + k)).toNat)
  replace h := oreq.elim h; obtain ⟨hb, h⟩ := h
  first | (refine req.intro hb ?_; conv => whnf) | skip
  all_goals (cases h; exact Res.z rfl rfl rfl)
theorem ok65 (octet_Put : Int → Int → Option (List UInt8)) (hS : SumsOK Try.prog (aget (sums65 octet_Put))) : SumOK Try.prog 65 (s65 (check_SetF octet_Put)) := by
  refine SumOK.of_leads tab_ok (fun ar os r ha hr => ?_) ⟨Try.f65, rfl, by decide, rfl⟩
  replace hr : r65 (check_SetF octet_Put) ar (conts os) = some r := hr
  unfold r65 at hr
  generalize hc : conts os = C at hr
  replace hr := dV.elim hr; obtain ⟨v0, l1, y0, rfl, e0, hr⟩ := hr; obtain rfl := asS_eq _ _ e0
  replace hr := dV.elim hr; obtain ⟨v1, l2, y1, rfl, e1, hr⟩ := hr; obtain rfl := asI_eq _ _ _ e1
  replace hr := dV.elim hr; obtain ⟨v2, l3, y2, rfl, e2, hr⟩ := hr; obtain rfl := asI_eq _ _ _ e2
  replace hr := dV.elim hr; obtain ⟨v3, l4, y3, rfl, e3, hr⟩ := hr; obtain rfl := asI_eq _ _ _ e3
  replace hr := dFin hr; obtain ⟨rfl, rfl, x, h, rfl⟩ := hr
  obtain rfl := kinds_nil hc
  exact ⟨_, rfl, leads65 octet_Put hS _ _ _ _ x h⟩
def check_Set : (List UInt8) → Int → Int → Int → Option (List UInt8) := check_SetF octet_Put
theorem lift65 : SumOK Try.prog 65 (s65 check_Set) := ok65 octet_Put (SumsOK.of_tab ⟨lift62, trivial⟩)
def R03_SetF (R02_Get : (List UInt8) → Int → Int → Option (Int × Bool)) (R02_Put : Int → Int → Option (List UInt8)) (s : List UInt8) (ata1 : Int) (k : Int) (n : Int) : Option (List UInt8) :=
  (R02_Get s ata1 k).bind fun xg =>
  cond (!xg.2)
    (
    some (s))
    (
    oreq (decide ((0 : Int) ≤ ata1 ∧ ata1 ≤ (s.length : Int))) <|
    (R02_Put n k).bind fun p =>
    oreq (decide ((s.take ata1.toNat).length + p.length < 2 ^ 63)) <|
    oreq (decide ((0 : Int) ≤ (wI .i64 (ata1 + k)) ∧ (wI .i64 (ata1 + k)) ≤ (s.length : Int))) <|
    let t := (s.drop (wI .i64 (ata1 + k)).toNat).take (s.length - (wI .i64 (ata1 + k)).toNat)
    oreq (decide (((s.take ata1.toNat) ++ p).length + t.length < 2 ^ 63)) <|
    some (((s.take ata1.toNat) ++ p) ++ t))
def rx69 (x : List UInt8) : SRes := ⟨.string ⟨⟨x⟩⟩, [], []⟩
def r69 (g : (List UInt8) → Int → Int → Int → Option (List UInt8)) : Dec := dV asS fun (y0 : List UInt8) => dV (asI .i64) fun (y1 : Int) => dV (asI .i64) fun (y2 : Int) => dV (asI .u64) fun (y3 : Int) => dEnd (ofG (g y0 y1 y2 y3) rx69)
theorem r69_c {g : (List UInt8) → Int → Int → Int → Option (List UInt8)} {y0 : List UInt8} {y1 : Int} {y2 : Int} {y3 : Int} {x : List UInt8} (hx : g y0 y1 y2 y3 = some x) : r69 g [.string ⟨⟨y0⟩⟩, .int .i64 y1, .int .i64 y2, .int .u64 y3] [] = some (rx69 x) := (dV_eq (asS_c)).trans ((dV_eq (asI_c _)).trans ((dV_eq (asI_c _)).trans ((dV_eq (asI_c _)).trans (ofG_eq hx))))
def s69 (g : (List UInt8) → Int → Int → Int → Option (List UInt8)) : Summ := ⟨[.v, .v, .v, .v], r69 g⟩
theorem r69_eq {g : (List UInt8) → Int → Int → Int → Option (List UInt8)} {y0 : List UInt8} {y1 : Int} {y2 : Int} {y3 : Int} {x : List UInt8} (hx : g y0 y1 y2 y3 = some x) : (s69 g).run [.string ⟨⟨y0⟩⟩, .int .i64 y1, .int .i64 y2, .int .u64 y3] [] = some (rx69 x) := r69_c hx
abbrev sums69 (R02_Get : (List UInt8) → Int → Int → Option (Int × Bool)) (R02_Put : Int → Int → Option (List UInt8)) : List (Nat × Summ) := [(114, s114 R02_Get), (67, s67 R02_Put)]
theorem leads69 (R02_Get : (List UInt8) → Int → Int → Option (Int × Bool)) (R02_Put : Int → Int → Option (List UInt8)) (hS : SumsOK Try.prog (aget (sums69 R02_Get R02_Put))) (s : List UInt8) (ata1 : Int) (k : Int) (n : Int) (res : List UInt8) (h : R03_SetF R02_Get R02_Put s ata1 k n = some res) :
    Leads Try.prog 69 0 ⟨⟨69, 34, [(0, .string ⟨⟨s⟩⟩), (1, .int .i64 ata1), (2, .int .i64 k), (3, .int .u64 n)], [.code k69_11], [], false, none⟩, [], [], 0⟩ (fun v H _ => Res 0 (rx69 res) v H) := by
  unfold R03_SetF at h
  refine ev_ok tab_ok hS true 3000 ?_
  conv => whnf
  replace h := obind.elim h; obtain ⟨xg, hy, h⟩ := h
  refine sumK.q rfl rfl (r114_eq hy) rfl rfl rfl ?_
  conv => whnf
  refine br.h h ?_ ?_ ?_
  · rfl
  · clear h; intro hb h; conv => whnf
    all_goals (cases h; exact Res.z rfl rfl rfl)
  clear h; intro hb h; conv => whnf
  replace h := oreq.elim h; obtain ⟨hb, h⟩ := h
  first | (refine req.intro hb ?_; conv => whnf) | skip
  replace h := obind.elim h; obtain ⟨p, hy, h⟩ := h
  refine sumK.q rfl rfl (r67_eq hy) rfl rfl rfl ?_
  conv => whnf
  replace h := oreq.elim h; obtain ⟨hb, h⟩ := h
  first | (refine req.intro hb ?_; conv => whnf) | skip
  replace h := oreq.elim h; obtain ⟨hb, h⟩ := h
  first | (refine req.intro hb ?_; conv => whnf) | skip
  let t : List UInt8 := (s.drop (wI .i64 (ata1 + k)).toNat).take (s.length - (wI .i64 (ata1 + k)).toNat)
  replace h := oreq.elim h; obtain ⟨hb, h⟩ := h
  first | (refine req.intro hb ?_; conv => whnf) | skip
  all_goals (cases h; exact Res.z rfl rfl rfl)
theorem ok69 (R02_Get : (List UInt8) → Int → Int → Option (Int × Bool)) (R02_Put : Int → Int → Option (List UInt8)) (hS : SumsOK Try.prog (aget (sums69 R02_Get R02_Put))) : SumOK Try.prog 69 (s69 (R03_SetF R02_Get R02_Put)) := by
  refine SumOK.of_leads tab_ok (fun ar os r ha hr => ?_) ⟨Try.f69, rfl, by decide, rfl⟩
  replace hr : r69 (R03_SetF R02_Get R02_Put) ar (conts os) = some r := hr
  unfold r69 at hr
  generalize hc : conts os = C at hr
  replace hr := dV.elim hr; obtain ⟨v0, l1, y0, rfl, e0, hr⟩ := hr; obtain rfl := asS_eq _ _ e0
  replace hr := dV.elim hr; obtain ⟨v1, l2, y1, rfl, e1, hr⟩ := hr; obtain rfl := asI_eq _ _ _ e1
  replace hr := dV.elim hr; obtain ⟨v2, l3, y2, rfl, e2, hr⟩ := hr; obtain rfl := asI_eq _ _ _ e2
  replace hr := dV.elim hr; obtain ⟨v3, l4, y3, rfl, e3, hr⟩ := hr; obtain rfl := asI_eq _ _ _ e3
  replace hr := dFin hr; obtain ⟨rfl, rfl, x, h, rfl⟩ := hr
  obtain rfl := kinds_nil hc
  exact ⟨_, rfl, leads69 R02_Get R02_Put hS _ _ _ _ x h⟩
def R03_Set : (List UInt8) → Int → Int → Int → Option (List UInt8) := R03_SetF R02_Get R02_Put
theorem lift69 : SumOK Try.prog 69 (s69 R03_Set) := ok69 R02_Get R02_Put (SumsOK.of_tab ⟨lift114, lift67, trivial⟩)
def R03_Add_s1 (l : List Int) (n1 : Int) : Option (Sum Int Int) :=
  cond (decide (n1 > 65535))
    (
    let t := wI .i64 ((n1.tmod 65536) + (wI .i64 (n1.tdiv 65536)))
    some (.inl t))
    (
    some (.inr (n1)))
def R03_Add_s2 (l : List Int) (n : Int) (i : Int) : Option (Sum (Int × Int) Int) :=
  cond (decide (i < (l.length : Int)))
    (
    oreq (decide ((0 : Int) ≤ i ∧ i < (l.length : Int))) <|
    (l[i.toNat]?).bind fun (e : Int) =>
    some (.inl (wI .i64 (n + e), wI .i64 (i + 1))))
    (
    (iter (fun st => R03_Add_s1 l st) FUEL n).bind fun o => some (.inr (o)))
def R03_AddF (l : List Int) : Option Int :=
  iter (fun st => R03_Add_s2 l st.1 st.2) FUEL (0, 0)
def rx115 (x : Int) : SRes := ⟨.int .i64 x, [], [none]⟩
def r115 (g : (List Int) → Option Int) : Dec := dSl 0 1 (unL (asI .i64)) fun (y0 : List Int) => dEnd (ofG (g y0) rx115)
theorem r115_c {g : (List Int) → Option Int} {y0 : List Int} {x : Int} (hx : g y0 = some x) : r115 g [.slice (some ⟨0, 0, none⟩) y0.length 1] [some (vI .i64 y0)] = some (rx115 x) := (dSl_eq (unI_vI _ _)).trans (ofG_eq hx)
def s115 (g : (List Int) → Option Int) : Summ := ⟨[.sl 1], r115 g⟩
theorem r115_eq {g : (List Int) → Option Int} {y0 : List Int} {x : Int} (hx : g y0 = some x) : (s115 g).run [.slice (some ⟨0, 0, none⟩) y0.length 1] [some (vI .i64 y0)] = some (rx115 x) := r115_c hx
abbrev sums115 : List (Nat × Summ) := []
def head115_1 (l : List Int) (n1 : Int) : VM :=
  ⟨⟨115, 25, [(3, .int .i64 n1)], [.code k115_19, .inLoop k115_19, .inBlock 2, .code k115_23], [], false, none⟩, [], [(0, .row false (vI .i64 l))], 1⟩
def head115_2 (l : List Int) (n : Int) (i : Int) : VM :=
  ⟨⟨115, 25, [(0, .slice (some ⟨0, 0, none⟩) l.length 1), (3, .int .i64 n), (4, .int .i64 i)], [.code k115_10, .inLoop k115_10, .inBlock 0, .code k115_24], [], false, none⟩, [], [(0, .row false (vI .i64 l))], 1⟩
theorem loop115_1 (hS : SumsOK Try.prog (aget (sums115))) (l : List Int) (res : Int) : ∀ fuel (st : Int) (o : Int), iter (fun st => R03_Add_s1 l st) fuel st = some o → (o = res) →
    Leads Try.prog 115 1 (head115_1 l st) (fun v H _ => Res 1 (rx115 res) v H) := by
  intro fuel st o h hc
  refine iter_leads (head := fun st => head115_1 l st) (C := fun o => (o = res)) ?_ fuel st o h hc
  clear h hc o st fuel
  intro n1 o h hc
  replace h : R03_Add_s1 l n1 = some o := h
  show Leads Try.prog 115 1 (head115_1 l n1) (fun v H _ => Res 1 (rx115 res) v H)
  unfold R03_Add_s1 at h
  refine ev_ok tab_ok hS true 3000 ?_
  conv => whnf
  refine br.h2 h ?_ ?_ ?_
  · rfl
  · clear h; intro hb h; conv => whnf
    all_goals (cases h; cases hc)
    all_goals exact Res.of [] rfl nw_0 (by decide) js_0 (wr_n wr_0)
  clear h; intro hb h; conv => whnf
  let t : Int := wI .i64 ((n1.tmod 65536) + (wI .i64 (n1.tdiv 65536)))
  cases h; simp only [Sum.elim_inl, head115_1] at hc
  refine Leads.re hc [(0, 0)] rfl ?_ ?_ <;> (repeat' first | exact trivial | refine ⟨⟨_, rfl, rfl⟩, ?_⟩ | refine ⟨⟨_, _, rfl, rfl, .rowF (vI_flat _ _) id⟩, ?_⟩ | refine ⟨⟨_, _, rfl, rfl, .rowF (vS_flat _) id⟩, ?_⟩ | refine ⟨⟨_, _, rfl, rfl, .rowF (vB_flat _) id⟩, ?_⟩ | refine ⟨⟨_, _, rfl, rfl, .rowF (vT_flat (by first | exact cicmp_Message_flat | exact capi_Addr_flat | exact coctet_Reader_flat | exact cArr2_Int_flat | exact cArr4_Arr2_Int_flat | exact cruntime_errorAddressString_flat | exact cudp_Head_flat | exact cipsix_Head_flat | exact cipfour_Head_flat | exact capi_Tuple_flat | exact ctcp_Head_flat) _) id⟩, ?_⟩ | refine ⟨⟨_, _, rfl, rfl, .tyF (vI_flat _ _)⟩, ?_⟩ | refine ⟨⟨_, _, rfl, rfl, .ty rfl⟩, ?_⟩ | refine ⟨⟨_, _, rfl, rfl, .cells rfl⟩, ?_⟩ | refine ⟨⟨_, _, rfl, rfl, .row rfl id⟩, ?_⟩ | refine ⟨⟨_, _, rfl, rfl, .cr rfl⟩, ?_⟩ | refine ⟨⟨_, _, rfl, rfl, .rc rfl⟩, ?_⟩ | refine ⟨⟨_, _, rfl, rfl, .marks⟩, ?_⟩ | refine ⟨⟨_, _, rfl, rfl, .siter _ _⟩, ?_⟩ | refine ⟨⟨_, _, rfl, rfl, .loop rfl rfl rfl rfl (by repeat' first | exact trivial | refine ⟨rfl, ?_⟩) rfl rfl rfl rfl⟩, ?_⟩)
theorem loop115_2 (hS : SumsOK Try.prog (aget (sums115))) (l : List Int) (res : Int) : ∀ fuel (st : Int × Int) (o : Int), iter (fun st => R03_Add_s2 l st.1 st.2) fuel st = some o → (o = res) →
    Leads Try.prog 115 1 (head115_2 l st.1 st.2) (fun v H _ => Res 1 (rx115 res) v H) := by
  intro fuel st o h hc
  refine iter_leads (head := fun st => head115_2 l st.1 st.2) (C := fun o => (o = res)) ?_ fuel st o h hc
  clear h hc o st fuel
  intro st o h hc
  obtain ⟨n, i⟩ := st
  replace h : R03_Add_s2 l n i = some o := h
  show Leads Try.prog 115 1 (head115_2 l n i) (fun v H _ => Res 1 (rx115 res) v H)
  unfold R03_Add_s2 at h
  refine ev_ok tab_ok hS true 3000 ?_
  conv => whnf
  refine br.h2 h ?_ ?_ ?_
  · rfl
  · clear h; intro hb h; conv => whnf
    obtain ⟨y, hy, h2⟩ := obind.elim h; cases h2
    have hl := loop115_1 hS _ res _ _ _ hy hc; simp only [head115_1] at hl
    refine Leads.re hl [(0, 0)] rfl ?_ ?_ <;> (repeat' first | exact trivial | refine ⟨⟨_, rfl, rfl⟩, ?_⟩ | refine ⟨⟨_, _, rfl, rfl, .rowF (vI_flat _ _) id⟩, ?_⟩ | refine ⟨⟨_, _, rfl, rfl, .rowF (vS_flat _) id⟩, ?_⟩ | refine ⟨⟨_, _, rfl, rfl, .rowF (vB_flat _) id⟩, ?_⟩ | refine ⟨⟨_, _, rfl, rfl, .rowF (vT_flat (by first | exact cicmp_Message_flat | exact capi_Addr_flat | exact coctet_Reader_flat | exact cArr2_Int_flat | exact cArr4_Arr2_Int_flat | exact cruntime_errorAddressString_flat | exact cudp_Head_flat | exact cipsix_Head_flat | exact cipfour_Head_flat | exact capi_Tuple_flat | exact ctcp_Head_flat) _) id⟩, ?_⟩ | refine ⟨⟨_, _, rfl, rfl, .tyF (vI_flat _ _)⟩, ?_⟩ | refine ⟨⟨_, _, rfl, rfl, .ty rfl⟩, ?_⟩ | refine ⟨⟨_, _, rfl, rfl, .cells rfl⟩, ?_⟩ | refine ⟨⟨_, _, rfl, rfl, .row rfl id⟩, ?_⟩ | refine ⟨⟨_, _, rfl, rfl, .cr rfl⟩, ?_⟩ | refine ⟨⟨_, _, rfl, rfl, .rc rfl⟩, ?_⟩ | refine ⟨⟨_, _, rfl, rfl, .marks⟩, ?_⟩ | refine ⟨⟨_, _, rfl, rfl, .siter _ _⟩, ?_⟩ | refine ⟨⟨_, _, rfl, rfl, .loop rfl rfl rfl rfl (by repeat' first | exact trivial | refine ⟨rfl, ?_⟩) rfl rfl rfl rfl⟩, ?_⟩)
  clear h; intro hb h; conv => whnf
  replace h := oreq.elim h; obtain ⟨hb, h⟩ := h
  first | (refine req.intro hb ?_; conv => whnf) | skip
  replace h := obind.elim h; obtain ⟨e, hy, h⟩ := h
  refine rd.I hy (by first | rfl | (rw [Nat.zero_add, Nat.mul_one]; done) | omega) ?_
  conv => whnf
  cases h; simp only [Sum.elim_inl, head115_2] at hc
  refine Leads.re hc [(0, 0)] rfl ?_ ?_ <;> (repeat' first | exact trivial | refine ⟨⟨_, rfl, rfl⟩, ?_⟩ | refine ⟨⟨_, _, rfl, rfl, .rowF (vI_flat _ _) id⟩, ?_⟩ | refine ⟨⟨_, _, rfl, rfl, .rowF (vS_flat _) id⟩, ?_⟩ | refine ⟨⟨_, _, rfl, rfl, .rowF (vB_flat _) id⟩, ?_⟩ | refine ⟨⟨_, _, rfl, rfl, .rowF (vT_flat (by first | exact cicmp_Message_flat | exact capi_Addr_flat | exact coctet_Reader_flat | exact cArr2_Int_flat | exact cArr4_Arr2_Int_flat | exact cruntime_errorAddressString_flat | exact cudp_Head_flat | exact cipsix_Head_flat | exact cipfour_Head_flat | exact capi_Tuple_flat | exact ctcp_Head_flat) _) id⟩, ?_⟩ | refine ⟨⟨_, _, rfl, rfl, .tyF (vI_flat _ _)⟩, ?_⟩ | refine ⟨⟨_, _, rfl, rfl, .ty rfl⟩, ?_⟩ | refine ⟨⟨_, _, rfl, rfl, .cells rfl⟩, ?_⟩ | refine ⟨⟨_, _, rfl, rfl, .row rfl id⟩, ?_⟩ | refine ⟨⟨_, _, rfl, rfl, .cr rfl⟩, ?_⟩ | refine ⟨⟨_, _, rfl, rfl, .rc rfl⟩, ?_⟩ | refine ⟨⟨_, _, rfl, rfl, .marks⟩, ?_⟩ | refine ⟨⟨_, _, rfl, rfl, .siter _ _⟩, ?_⟩ | refine ⟨⟨_, _, rfl, rfl, .loop rfl rfl rfl rfl (by repeat' first | exact trivial | refine ⟨rfl, ?_⟩) rfl rfl rfl rfl⟩, ?_⟩)
theorem leads115 (hS : SumsOK Try.prog (aget (sums115))) (l : List Int) (res : Int) (h : R03_AddF l = some res) :
    Leads Try.prog 115 1 ⟨⟨115, 25, [(0, .slice (some ⟨0, 0, none⟩) l.length 1)], [.code k115_27], [], false, none⟩, [], [(0, .row false (vI .i64 l))], 1⟩ (fun v H _ => Res 1 (rx115 res) v H) := by
  unfold R03_AddF at h
  refine ev_ok tab_ok hS true 3000 ?_
  conv => whnf
  have hl := loop115_2 hS _ res _ _ _ h rfl; simp only [head115_2] at hl
  refine Leads.re hl [(0, 0)] rfl ?_ ?_ <;> (repeat' first | exact trivial | refine ⟨⟨_, rfl, rfl⟩, ?_⟩ | refine ⟨⟨_, _, rfl, rfl, .rowF (vI_flat _ _) id⟩, ?_⟩ | refine ⟨⟨_, _, rfl, rfl, .rowF (vS_flat _) id⟩, ?_⟩ | refine ⟨⟨_, _, rfl, rfl, .rowF (vB_flat _) id⟩, ?_⟩ | refine ⟨⟨_, _, rfl, rfl, .rowF (vT_flat (by first | exact cicmp_Message_flat | exact capi_Addr_flat | exact coctet_Reader_flat | exact cArr2_Int_flat | exact cArr4_Arr2_Int_flat | exact cruntime_errorAddressString_flat | exact cudp_Head_flat | exact cipsix_Head_flat | exact cipfour_Head_flat | exact capi_Tuple_flat | exact ctcp_Head_flat) _) id⟩, ?_⟩ | refine ⟨⟨_, _, rfl, rfl, .tyF (vI_flat _ _)⟩, ?_⟩ | refine ⟨⟨_, _, rfl, rfl, .ty rfl⟩, ?_⟩ | refine ⟨⟨_, _, rfl, rfl, .cells rfl⟩, ?_⟩ | refine ⟨⟨_, _, rfl, rfl, .row rfl id⟩, ?_⟩ | refine ⟨⟨_, _, rfl, rfl, .cr rfl⟩, ?_⟩ | refine ⟨⟨_, _, rfl, rfl, .rc rfl⟩, ?_⟩ | refine ⟨⟨_, _, rfl, rfl, .marks⟩, ?_⟩ | refine ⟨⟨_, _, rfl, rfl, .siter _ _⟩, ?_⟩ | refine ⟨⟨_, _, rfl, rfl, .loop rfl rfl rfl rfl (by repeat' first | exact trivial | refine ⟨rfl, ?_⟩) rfl rfl rfl rfl⟩, ?_⟩)
theorem ok115 (hS : SumsOK Try.prog (aget (sums115))) : SumOK Try.prog 115 (s115 (R03_AddF)) := by
  refine SumOK.of_leads tab_ok (fun ar os r ha hr => ?_) ⟨Try.f115, rfl, by decide, rfl⟩
  replace hr : r115 (R03_AddF) ar (conts os) = some r := hr
  unfold r115 at hr
  generalize hc : conts os = C at hr
  have hq := dSl.elim hr; clear hr; obtain ⟨c0, l1, C, y0, rfl, rfl, e0, hr⟩ := hq; obtain rfl := unI_eq e0
  replace hr := dFin hr; obtain ⟨rfl, rfl, x, h, rfl⟩ := hr
  obtain ⟨os, rfl, ha, hc⟩ := kinds_some ha hc
  obtain rfl := kinds_nil hc
  exact ⟨_, rfl, leads115 hS _ x h⟩
def R03_Add : (List Int) → Option Int := R03_AddF
theorem lift115 : SumOK Try.prog 115 (s115 R03_Add) := ok115 (SumsOK.of_tab trivial)
def R03_Words_s1 (R02_Must : (List UInt8) → Int → Int → Option Int) (s1 : List UInt8) (i : Int) (out1 : List Int) : Option (Sum ((List UInt8) × Int × (List Int)) (List Int)) :=
  cond (decide (i < (s1.length : Int)))
    (
    (R02_Must s1 i 2).bind fun m =>
    oreq (decide ((out1.length + 1) * 8 ≤ 2 ^ 47)) <|
    let row := out1 ++ [m]
    some (.inl (s1, wI .i64 (i + 2), row)))
    (
    some (.inr (out1)))
def R03_WordsF (R02_Must : (List UInt8) → Int → Int → Option Int) (s : List UInt8) : Option (List Int) :=
  cond (((s.length : Int).tmod 2) == 1)
    (
    oreq (decide (s.length + 1 < 2 ^ 63)) <|
    iter (fun st => R03_Words_s1 R02_Must st.1 st.2.1 st.2.2) FUEL (s ++ [0], 0, []))
    (
    iter (fun st => R03_Words_s1 R02_Must st.1 st.2.1 st.2.2) FUEL (s, 0, []))
def rx116 (x : List Int) : SRes := ⟨.slice (some ⟨0, 0, none⟩) x.length 1, [(vI .i64 x)], []⟩
def r116 (g : (List UInt8) → Option (List Int)) : Dec := dV asS fun (y0 : List UInt8) => dEnd (ofG (g y0) rx116)
theorem r116_c {g : (List UInt8) → Option (List Int)} {y0 : List UInt8} {x : List Int} (hx : g y0 = some x) : r116 g [.string ⟨⟨y0⟩⟩] [] = some (rx116 x) := (dV_eq (asS_c)).trans (ofG_eq hx)
def s116 (g : (List UInt8) → Option (List Int)) : Summ := ⟨[.v], r116 g⟩
theorem r116_eq {g : (List UInt8) → Option (List Int)} {y0 : List UInt8} {x : List Int} (hx : g y0 = some x) : (s116 g).run [.string ⟨⟨y0⟩⟩] [] = some (rx116 x) := r116_c hx
abbrev sums116 (R02_Must : (List UInt8) → Int → Int → Option Int) : List (Nat × Summ) := [(74, s74 R02_Must)]
def head116_1 (s1 : List UInt8) (i : Int) (out1 : List Int) : VM :=
  ⟨⟨116, 24, [(0, .string ⟨⟨s1⟩⟩), (3, .slice (some ⟨0, 0, none⟩) out1.length 1), (4, .int .i64 i)], [.code k116_14, .inLoop k116_14, .inBlock 0, .code k116_19], [], false, none⟩, [], [(0, .row true (vI .i64 out1))], 1⟩
theorem loop116_1 (R02_Must : (List UInt8) → Int → Int → Option Int) (hS : SumsOK Try.prog (aget (sums116 R02_Must))) (res : List Int) : ∀ fuel (st : (List UInt8) × Int × (List Int)) (o : List Int), iter (fun st => R03_Words_s1 R02_Must st.1 st.2.1 st.2.2) fuel st = some o → (o = res) →
    Leads Try.prog 116 0 (head116_1 st.1 st.2.1 st.2.2) (fun v H _ => Res 0 (rx116 res) v H) := by
  intro fuel st o h hc
  refine iter_leads (head := fun st => head116_1 st.1 st.2.1 st.2.2) (C := fun o => (o = res)) ?_ fuel st o h hc
  clear h hc o st fuel
  intro st o h hc
  obtain ⟨s1, i, out1⟩ := st
  replace h : R03_Words_s1 R02_Must s1 i out1 = some o := h
  show Leads Try.prog 116 0 (head116_1 s1 i out1) (fun v H _ => Res 0 (rx116 res) v H)
  unfold R03_Words_s1 at h
  refine ev_ok tab_ok hS true 3000 ?_
  conv => whnf
  refine br.h2 h ?_ ?_ ?_
  · rfl
  · clear h; intro hb h; conv => whnf
    all_goals (cases h; cases hc)
    all_goals exact Res.of [0] rfl (nw_s (rn_I) (hs_row rfl) nw_0) (by decide) (js_l (by decide) js_0) wr_0
  clear h; intro hb h; conv => whnf
  replace h := obind.elim h; obtain ⟨m, hy, h⟩ := h
  refine sumK.q rfl rfl (r74_eq hy) rfl rfl rfl ?_
  conv => whnf
  replace h := oreq.elim h; obtain ⟨hb, h⟩ := h
  refine req.intro (ap_req (of_decide_eq_true hb) (by first | rfl | omega | (simp; done) | (simp; omega) | (simp at *; omega)) rfl (by first | rfl | omega | (simp; done) | (simp; omega) | (simp at *; omega)) (by first | rfl | exact vI_one _ _ | exact vS_one _ | exact vB_one _ | exact vT_one (by first | exact cicmp_Message_one | exact capi_Addr_one | exact coctet_Reader_one | exact cArr2_Int_one | exact cArr4_Arr2_Int_one | exact cruntime_errorAddressString_one | exact cudp_Head_one | exact cipsix_Head_one | exact cipfour_Head_one | exact capi_Tuple_one | exact ctcp_Head_one) _ | (rw [ofBytes_vI]; exact vI_one _ _) | simp [vI_one, vS_one, vB_one, vI_drop, vI_take, vS_drop, vS_take]) rfl) ?_
  conv => whnf
  let row : List Int := out1 ++ [m]
  refine pk_apI (xs := out1) (ys := [m]) rfl (by first | rfl | omega) (by first | (simp; done) | (simp; omega)) (by first | (simp; done) | (simp; omega)) ?_
  conv => whnf
  cases h; simp only [Sum.elim_inl, head116_1] at hc
  refine Leads.re hc [(0, 2)] rfl ?_ ?_ <;> (repeat' first | exact trivial | refine ⟨⟨_, rfl, rfl⟩, ?_⟩ | refine ⟨⟨_, _, rfl, rfl, .rowF (vI_flat _ _) id⟩, ?_⟩ | refine ⟨⟨_, _, rfl, rfl, .rowF (vS_flat _) id⟩, ?_⟩ | refine ⟨⟨_, _, rfl, rfl, .rowF (vB_flat _) id⟩, ?_⟩ | refine ⟨⟨_, _, rfl, rfl, .rowF (vT_flat (by first | exact cicmp_Message_flat | exact capi_Addr_flat | exact coctet_Reader_flat | exact cArr2_Int_flat | exact cArr4_Arr2_Int_flat | exact cruntime_errorAddressString_flat | exact cudp_Head_flat | exact cipsix_Head_flat | exact cipfour_Head_flat | exact capi_Tuple_flat | exact ctcp_Head_flat) _) id⟩, ?_⟩ | refine ⟨⟨_, _, rfl, rfl, .tyF (vI_flat _ _)⟩, ?_⟩ | refine ⟨⟨_, _, rfl, rfl, .ty rfl⟩, ?_⟩ | refine ⟨⟨_, _, rfl, rfl, .cells rfl⟩, ?_⟩ | refine ⟨⟨_, _, rfl, rfl, .row rfl id⟩, ?_⟩ | refine ⟨⟨_, _, rfl, rfl, .cr rfl⟩, ?_⟩ | refine ⟨⟨_, _, rfl, rfl, .rc rfl⟩, ?_⟩ | refine ⟨⟨_, _, rfl, rfl, .marks⟩, ?_⟩ | refine ⟨⟨_, _, rfl, rfl, .siter _ _⟩, ?_⟩ | refine ⟨⟨_, _, rfl, rfl, .loop rfl rfl rfl rfl (by repeat' first | exact trivial | refine ⟨rfl, ?_⟩) rfl rfl rfl rfl⟩, ?_⟩)
theorem leads116 (R02_Must : (List UInt8) → Int → Int → Option Int) (hS : SumsOK Try.prog (aget (sums116 R02_Must))) (s : List UInt8) (res : List Int) (h : R03_WordsF R02_Must s = some res) :
    Leads Try.prog 116 0 ⟨⟨116, 24, [(0, .string ⟨⟨s⟩⟩)], [.code k116_23], [], false, none⟩, [], [], 0⟩ (fun v H _ => Res 0 (rx116 res) v H) := by
  unfold R03_WordsF at h
  refine ev_ok tab_ok hS true 3000 ?_
  conv => whnf
  refine br.h2 h ?_ ?_ ?_
  · rfl
  · clear h; intro hb h; conv => whnf
    have hl := loop116_1 R02_Must hS res _ _ _ h rfl; simp only [head116_1] at hl
    refine Leads.nilT 3 1 ?_
    refine Leads.re hl [(0, 0)] rfl ?_ ?_ <;> (repeat' first | exact trivial | refine ⟨⟨_, rfl, rfl⟩, ?_⟩ | refine ⟨⟨_, _, rfl, rfl, .rowF (vI_flat _ _) id⟩, ?_⟩ | refine ⟨⟨_, _, rfl, rfl, .rowF (vS_flat _) id⟩, ?_⟩ | refine ⟨⟨_, _, rfl, rfl, .rowF (vB_flat _) id⟩, ?_⟩ | refine ⟨⟨_, _, rfl, rfl, .rowF (vT_flat (by first | exact cicmp_Message_flat | exact capi_Addr_flat | exact coctet_Reader_flat | exact cArr2_Int_flat | exact cArr4_Arr2_Int_flat | exact cruntime_errorAddressString_flat | exact cudp_Head_flat | exact cipsix_Head_flat | exact cipfour_Head_flat | exact capi_Tuple_flat | exact ctcp_Head_flat) _) id⟩, ?_⟩ | refine ⟨⟨_, _, rfl, rfl, .tyF (vI_flat _ _)⟩, ?_⟩ | refine ⟨⟨_, _, rfl, rfl, .ty rfl⟩, ?_⟩ | refine ⟨⟨_, _, rfl, rfl, .cells rfl⟩, ?_⟩ | refine ⟨⟨_, _, rfl, rfl, .row rfl id⟩, ?_⟩ | refine ⟨⟨_, _, rfl, rfl, .cr rfl⟩, ?_⟩ | refine ⟨⟨_, _, rfl, rfl, .rc rfl⟩, ?_⟩ | refine ⟨⟨_, _, rfl, rfl, .marks⟩, ?_⟩ | refine ⟨⟨_, _, rfl, rfl, .siter _ _⟩, ?_⟩ | refine ⟨⟨_, _, rfl, rfl, .loop rfl rfl rfl rfl (by repeat' first | exact trivial | refine ⟨rfl, ?_⟩) rfl rfl rfl rfl⟩, ?_⟩)
  clear h; intro hb h; conv => whnf
  replace h := oreq.elim h; obtain ⟨hb, h⟩ := h
  first | (refine req.intro hb ?_; conv => whnf) | skip
  have hl := loop116_1 R02_Must hS res _ _ _ h rfl; simp only [head116_1] at hl
  refine Leads.nilT 3 1 ?_
  refine Leads.re hl [(0, 0)] rfl ?_ ?_ <;> (repeat' first | exact trivial | refine ⟨⟨_, rfl, rfl⟩, ?_⟩ | refine ⟨⟨_, _, rfl, rfl, .rowF (vI_flat _ _) id⟩, ?_⟩ | refine ⟨⟨_, _, rfl, rfl, .rowF (vS_flat _) id⟩, ?_⟩ | refine ⟨⟨_, _, rfl, rfl, .rowF (vB_flat _) id⟩, ?_⟩ | refine ⟨⟨_, _, rfl, rfl, .rowF (vT_flat (by first | exact cicmp_Message_flat | exact capi_Addr_flat | exact coctet_Reader_flat | exact cArr2_Int_flat | exact cArr4_Arr2_Int_flat | exact cruntime_errorAddressString_flat | exact cudp_Head_flat | exact cipsix_Head_flat | exact cipfour_Head_flat | exact capi_Tuple_flat | exact ctcp_Head_flat) _) id⟩, ?_⟩ | refine ⟨⟨_, _, rfl, rfl, .tyF (vI_flat _ _)⟩, ?_⟩ | refine ⟨⟨_, _, rfl, rfl, .ty rfl⟩, ?_⟩ | refine ⟨⟨_, _, rfl, rfl, .cells rfl⟩, ?_⟩ | refine ⟨⟨_, _, rfl, rfl, .row rfl id⟩, ?_⟩ | refine ⟨⟨_, _, rfl, rfl, .cr rfl⟩, ?_⟩ | refine ⟨⟨_, _, rfl, rfl, .rc rfl⟩, ?_⟩ | refine ⟨⟨_, _, rfl, rfl, .marks⟩, ?_⟩ | refine ⟨⟨_, _, rfl, rfl, .siter _ _⟩, ?_⟩ | refine ⟨⟨_, _, rfl, rfl, .loop rfl rfl rfl rfl (by repeat' first | exact trivial | refine ⟨rfl, ?_⟩) rfl rfl rfl rfl⟩, ?_⟩)
theorem ok116 (R02_Must : (List UInt8) → Int → Int → Option Int) (hS : SumsOK Try.prog (aget (sums116 R02_Must))) : SumOK Try.prog 116 (s116 (R03_WordsF R02_Must)) := by
  refine SumOK.of_leads tab_ok (fun ar os r ha hr => ?_) ⟨Try.f116, rfl, by decide, rfl⟩
  replace hr : r116 (R03_WordsF R02_Must) ar (conts os) = some r := hr
  unfold r116 at hr
  generalize hc : conts os = C at hr
  replace hr := dV.elim hr; obtain ⟨v0, l1, y0, rfl, e0, hr⟩ := hr; obtain rfl := asS_eq _ _ e0
  replace hr := dFin hr; obtain ⟨rfl, rfl, x, h, rfl⟩ := hr
  obtain rfl := kinds_nil hc
  exact ⟨_, rfl, leads116 R02_Must hS _ x h⟩
def R03_Words : (List UInt8) → Option (List Int) := R03_WordsF R02_Must
theorem lift116 : SumOK Try.prog 116 (s116 R03_Words) := ok116 R02_Must (SumsOK.of_tab ⟨lift74, trivial⟩)
def R03_SumF (R03_Add : (List Int) → Option Int) (R03_Words : (List UInt8) → Option (List Int)) (s : List UInt8) : Option Int :=
  (R03_Words s).bind fun w =>
  (R03_Add w).bind fun a =>
  some (a)
def rx75 (x : Int) : SRes := ⟨.int .i64 x, [], []⟩
def r75 (g : (List UInt8) → Option Int) : Dec := dV asS fun (y0 : List UInt8) => dEnd (ofG (g y0) rx75)
theorem r75_c {g : (List UInt8) → Option Int} {y0 : List UInt8} {x : Int} (hx : g y0 = some x) : r75 g [.string ⟨⟨y0⟩⟩] [] = some (rx75 x) := (dV_eq (asS_c)).trans (ofG_eq hx)
def s75 (g : (List UInt8) → Option Int) : Summ := ⟨[.v], r75 g⟩
theorem r75_eq {g : (List UInt8) → Option Int} {y0 : List UInt8} {x : Int} (hx : g y0 = some x) : (s75 g).run [.string ⟨⟨y0⟩⟩] [] = some (rx75 x) := r75_c hx
abbrev sums75 (R03_Add : (List Int) → Option Int) (R03_Words : (List UInt8) → Option (List Int)) : List (Nat × Summ) := [(115, s115 R03_Add), (116, s116 R03_Words)]
theorem leads75 (R03_Add : (List Int) → Option Int) (R03_Words : (List UInt8) → Option (List Int)) (hS : SumsOK Try.prog (aget (sums75 R03_Add R03_Words))) (s : List UInt8) (res : Int) (h : R03_SumF R03_Add R03_Words s = some res) :
    Leads Try.prog 75 0 ⟨⟨75, 6, [(0, .string ⟨⟨s⟩⟩)], [.code k75_3], [], false, none⟩, [], [], 0⟩ (fun v H _ => Res 0 (rx75 res) v H) := by
  unfold R03_SumF at h
  refine ev_ok tab_ok hS true 3000 ?_
  conv => whnf
  replace h := obind.elim h; obtain ⟨w, hy, h⟩ := h
  refine sumK.introF [] (sumRun_of (aqs := [.string ⟨⟨s⟩⟩]) (ws := []) (n := 1) (m := 0) (t' := 1) (ra_cons rfl rfl ra_nil) rfl (by rfl) (r116_eq hy) rfl rfl rfl rfl wb_nil (an_cons (rn_I) an_nil) rfl) ?_
  conv => whnf
  replace h := obind.elim h; obtain ⟨a, hy, h⟩ := h
  refine sumK.introF [] (sumRun_of (aqs := [.slice (some ⟨0, 0, none⟩) (w : List Int).length 1]) (ws := [.win 0 0 (w.length * 1) false]) (n := 0) (m := 0) (t' := 1) (ra_cons (by first | rfl | exact ra_allI rfl rfl (by first | rfl | omega) (by first | rfl | (simp; done)) | exact ra_slI rfl rfl (by first | rfl | omega) (by first | rfl | omega) (by first | omega | (simp at *; omega))) rfl ra_nil) rfl (by rfl) (r115_eq hy) rfl rfl rfl rfl (wb_skip rfl wb_nil) an_nil rfl) ?_
  conv => whnf
  all_goals (cases h; exact Res.z rfl rfl rfl)
theorem ok75 (R03_Add : (List Int) → Option Int) (R03_Words : (List UInt8) → Option (List Int)) (hS : SumsOK Try.prog (aget (sums75 R03_Add R03_Words))) : SumOK Try.prog 75 (s75 (R03_SumF R03_Add R03_Words)) := by
  refine SumOK.of_leads tab_ok (fun ar os r ha hr => ?_) ⟨Try.f75, rfl, by decide, rfl⟩
  replace hr : r75 (R03_SumF R03_Add R03_Words) ar (conts os) = some r := hr
  unfold r75 at hr
  generalize hc : conts os = C at hr
  replace hr := dV.elim hr; obtain ⟨v0, l1, y0, rfl, e0, hr⟩ := hr; obtain rfl := asS_eq _ _ e0
  replace hr := dFin hr; obtain ⟨rfl, rfl, x, h, rfl⟩ := hr
  obtain rfl := kinds_nil hc
  exact ⟨_, rfl, leads75 R03_Add R03_Words hS _ x h⟩
def R03_Sum : (List UInt8) → Option Int := R03_SumF R03_Add R03_Words
theorem lift75 : SumOK Try.prog 75 (s75 R03_Sum) := ok75 R03_Add R03_Words (SumsOK.of_tab ⟨lift115, lift116, trivial⟩)
def R03_OfF (R03_Sum : (List UInt8) → Option Int) (s : List UInt8) : Option Int :=
  (R03_Sum s).bind fun s1 =>
  some (wI .i64 (65535 - s1))
def rx68 (x : Int) : SRes := ⟨.int .i64 x, [], []⟩
def r68 (g : (List UInt8) → Option Int) : Dec := dV asS fun (y0 : List UInt8) => dEnd (ofG (g y0) rx68)
theorem r68_c {g : (List UInt8) → Option Int} {y0 : List UInt8} {x : Int} (hx : g y0 = some x) : r68 g [.string ⟨⟨y0⟩⟩] [] = some (rx68 x) := (dV_eq (asS_c)).trans (ofG_eq hx)
def s68 (g : (List UInt8) → Option Int) : Summ := ⟨[.v], r68 g⟩
theorem r68_eq {g : (List UInt8) → Option Int} {y0 : List UInt8} {x : Int} (hx : g y0 = some x) : (s68 g).run [.string ⟨⟨y0⟩⟩] [] = some (rx68 x) := r68_c hx
abbrev sums68 (R03_Sum : (List UInt8) → Option Int) : List (Nat × Summ) := [(75, s75 R03_Sum)]
theorem leads68 (R03_Sum : (List UInt8) → Option Int) (hS : SumsOK Try.prog (aget (sums68 R03_Sum))) (s : List UInt8) (res : Int) (h : R03_OfF R03_Sum s = some res) :
    Leads Try.prog 68 0 ⟨⟨68, 6, [(0, .string ⟨⟨s⟩⟩)], [.code k68_3], [], false, none⟩, [], [], 0⟩ (fun v H _ => Res 0 (rx68 res) v H) := by
  unfold R03_OfF at h
  refine ev_ok tab_ok hS true 3000 ?_
  conv => whnf
  replace h := obind.elim h; obtain ⟨s1, hy, h⟩ := h
  refine sumK.q rfl rfl (r75_eq hy) rfl rfl rfl ?_
  conv => whnf
  all_goals (cases h; exact Res.z rfl rfl rfl)
theorem ok68 (R03_Sum : (List UInt8) → Option Int) (hS : SumsOK Try.prog (aget (sums68 R03_Sum))) : SumOK Try.prog 68 (s68 (R03_OfF R03_Sum)) := by
  refine SumOK.of_leads tab_ok (fun ar os r ha hr => ?_) ⟨Try.f68, rfl, by decide, rfl⟩
  replace hr : r68 (R03_OfF R03_Sum) ar (conts os) = some r := hr
  unfold r68 at hr
  generalize hc : conts os = C at hr
  replace hr := dV.elim hr; obtain ⟨v0, l1, y0, rfl, e0, hr⟩ := hr; obtain rfl := asS_eq _ _ e0
  replace hr := dFin hr; obtain ⟨rfl, rfl, x, h, rfl⟩ := hr
  obtain rfl := kinds_nil hc
  exact ⟨_, rfl, leads68 R03_Sum hS _ x h⟩
def R03_Of : (List UInt8) → Option Int := R03_OfF R03_Sum
theorem lift68 : SumOK Try.prog 68 (s68 R03_Of) := ok68 R03_Sum (SumsOK.of_tab ⟨lift75, trivial⟩)
def check_OfF (check_Sum : (List UInt8) → Option Int) (s : List UInt8) : Option Int :=
  (check_Sum s).bind fun s1 =>
  some (wI .i64 (65535 - s1))
def rx64 (x : Int) : SRes := ⟨.int .i64 x, [], []⟩
def r64 (g : (List UInt8) → Option Int) : Dec := dV asS fun (y0 : List UInt8) => dEnd (ofG (g y0) rx64)
theorem r64_c {g : (List UInt8) → Option Int} {y0 : List UInt8} {x : Int} (hx : g y0 = some x) : r64 g [.string ⟨⟨y0⟩⟩] [] = some (rx64 x) := (dV_eq (asS_c)).trans (ofG_eq hx)
def s64 (g : (List UInt8) → Option Int) : Summ := ⟨[.v], r64 g⟩
theorem r64_eq {g : (List UInt8) → Option Int} {y0 : List UInt8} {x : Int} (hx : g y0 = some x) : (s64 g).run [.string ⟨⟨y0⟩⟩] [] = some (rx64 x) := r64_c hx
abbrev sums64 (check_Sum : (List UInt8) → Option Int) : List (Nat × Summ) := [(113, s113 check_Sum)]
theorem leads64 (check_Sum : (List UInt8) → Option Int) (hS : SumsOK Try.prog (aget (sums64 check_Sum))) (s : List UInt8) (res : Int) (h : check_OfF check_Sum s = some res) :
    Leads Try.prog 64 0 ⟨⟨64, 6, [(0, .string ⟨⟨s⟩⟩)], [.code k64_3], [], false, none⟩, [], [], 0⟩ (fun v H _ => Res 0 (rx64 res) v H) := by
  unfold check_OfF at h
  refine ev_ok tab_ok hS true 3000 ?_
  conv => whnf
  replace h := obind.elim h; obtain ⟨s1, hy, h⟩ := h
  refine sumK.q rfl rfl (r113_eq hy) rfl rfl rfl ?_
  conv => whnf
  all_goals (cases h; exact Res.z rfl rfl rfl)
theorem ok64 (check_Sum : (List UInt8) → Option Int) (hS : SumsOK Try.prog (aget (sums64 check_Sum))) : SumOK Try.prog 64 (s64 (check_OfF check_Sum)) := by
  refine SumOK.of_leads tab_ok (fun ar os r ha hr => ?_) ⟨Try.f64, rfl, by decide, rfl⟩
  replace hr : r64 (check_OfF check_Sum) ar (conts os) = some r := hr
  unfold r64 at hr
  generalize hc : conts os = C at hr
  replace hr := dV.elim hr; obtain ⟨v0, l1, y0, rfl, e0, hr⟩ := hr; obtain rfl := asS_eq _ _ e0
  replace hr := dFin hr; obtain ⟨rfl, rfl, x, h, rfl⟩ := hr
  obtain rfl := kinds_nil hc
  exact ⟨_, rfl, leads64 check_Sum hS _ x h⟩
def check_Of : (List UInt8) → Option Int := check_OfF check_Sum
theorem lift64 : SumOK Try.prog 64 (s64 check_Of) := ok64 check_Sum (SumsOK.of_tab ⟨lift113, trivial⟩)
def check_RightF (check_Sum : (List UInt8) → Option Int) (s : List UInt8) : Option Bool :=
  (check_Sum s).bind fun s1 =>
  some (s1 == 65535)
def rx73 (x : Bool) : SRes := ⟨.bool x, [], []⟩
def r73 (g : (List UInt8) → Option Bool) : Dec := dV asS fun (y0 : List UInt8) => dEnd (ofG (g y0) rx73)
theorem r73_c {g : (List UInt8) → Option Bool} {y0 : List UInt8} {x : Bool} (hx : g y0 = some x) : r73 g [.string ⟨⟨y0⟩⟩] [] = some (rx73 x) := (dV_eq (asS_c)).trans (ofG_eq hx)
def s73 (g : (List UInt8) → Option Bool) : Summ := ⟨[.v], r73 g⟩
theorem r73_eq {g : (List UInt8) → Option Bool} {y0 : List UInt8} {x : Bool} (hx : g y0 = some x) : (s73 g).run [.string ⟨⟨y0⟩⟩] [] = some (rx73 x) := r73_c hx
abbrev sums73 (check_Sum : (List UInt8) → Option Int) : List (Nat × Summ) := [(113, s113 check_Sum)]
theorem leads73 (check_Sum : (List UInt8) → Option Int) (hS : SumsOK Try.prog (aget (sums73 check_Sum))) (s : List UInt8) (res : Bool) (h : check_RightF check_Sum s = some res) :
    Leads Try.prog 73 0 ⟨⟨73, 6, [(0, .string ⟨⟨s⟩⟩)], [.code k73_3], [], false, none⟩, [], [], 0⟩ (fun v H _ => Res 0 (rx73 res) v H) := by
  unfold check_RightF at h
  refine ev_ok tab_ok hS true 3000 ?_
  conv => whnf
  replace h := obind.elim h; obtain ⟨s1, hy, h⟩ := h
  refine sumK.q rfl rfl (r113_eq hy) rfl rfl rfl ?_
  conv => whnf
  all_goals (cases h; exact Res.z rfl rfl rfl)
theorem ok73 (check_Sum : (List UInt8) → Option Int) (hS : SumsOK Try.prog (aget (sums73 check_Sum))) : SumOK Try.prog 73 (s73 (check_RightF check_Sum)) := by
  refine SumOK.of_leads tab_ok (fun ar os r ha hr => ?_) ⟨Try.f73, rfl, by decide, rfl⟩
  replace hr : r73 (check_RightF check_Sum) ar (conts os) = some r := hr
  unfold r73 at hr
  generalize hc : conts os = C at hr
  replace hr := dV.elim hr; obtain ⟨v0, l1, y0, rfl, e0, hr⟩ := hr; obtain rfl := asS_eq _ _ e0
  replace hr := dFin hr; obtain ⟨rfl, rfl, x, h, rfl⟩ := hr
  obtain rfl := kinds_nil hc
  exact ⟨_, rfl, leads73 check_Sum hS _ x h⟩
def check_Right : (List UInt8) → Option Bool := check_RightF check_Sum
theorem lift73 : SumOK Try.prog 73 (s73 check_Right) := ok73 check_Sum (SumsOK.of_tab ⟨lift113, trivial⟩)
end Go.Vm.Code
namespace Go.Vm.Code
open Go Go.Vm
theorem getS_two {s : List UInt8} {i : Nat} (h : i + 1 < s.length) : getS s (i : Int) 2 = (((s[i].toNat * 256 + s[i + 1].toNat : Nat) : Int), true) := by
  unfold getS
  rw [if_pos (by omega)]
  have e : (s.drop (i : Int).toNat).take (2 : Int).toNat = [s[i], s[i + 1]] := by
    show (s.drop i).take 2 = _
    rw [List.drop_eq_getElem_cons (by omega : i < s.length), List.drop_eq_getElem_cons h]; rfl
  rw [e]; simp [val_cons]
def wordsL : List UInt8 → List Int
  | [] => []
  | [b] => [((b.toNat * 256 : Nat) : Int)]
  | b :: c :: l => ((b.toNat * 256 + c.toNat : Nat) : Int) :: wordsL l
theorem wordsL_two {s : List UInt8} {i : Nat} (h : i + 1 < s.length) : wordsL (s.drop i) = ((s[i].toNat * 256 + s[i + 1].toNat : Nat) : Int) :: wordsL (s.drop (i + 2)) := by
  rw [List.drop_eq_getElem_cons (by omega : i < s.length), List.drop_eq_getElem_cons h]; rfl
theorem wordsL_pad : ∀ s : List UInt8, s.length % 2 = 1 → wordsL (s ++ [0]) = wordsL s
  | [], h => by simp at h
  | [b], _ => by
    show [((b.toNat * 256 + 0 : Nat) : Int)] = [((b.toNat * 256 : Nat) : Int)]
    rw [Nat.add_zero]
  | b :: c :: l, h => by
    have := wordsL_pad l (by simp at h; omega)
    simp only [List.cons_append, wordsL, this]
theorem wordsL_sum : ∀ s : List UInt8, (wordsL s).sum = (wsum s : Int)
  | [] => rfl
  | [b] => by simp only [wordsL, wsum, List.sum_cons, List.sum_nil, Int.add_zero]
  | b :: c :: l => by
    have := wordsL_sum l
    simp only [wordsL, wsum, List.sum_cons, this]; omega
theorem wordsL_rng : ∀ s : List UInt8, ∀ e ∈ wordsL s, 0 ≤ e ∧ e ≤ 65535
  | [], e, h => by simp [wordsL] at h
  | [b], e, h => by simp [wordsL] at h; have := b.toNat_lt; omega
  | b :: c :: l, e, h => by
    simp only [wordsL, List.mem_cons] at h
    rcases h with rfl | h
    · have := b.toNat_lt; have := c.toNat_lt; omega
    · exact wordsL_rng l e h
theorem wordsL_len : ∀ s : List UInt8, (wordsL s).length = (s.length + 1) / 2
  | [] => rfl
  | [b] => by simp [wordsL]
  | b :: c :: l => by
    have := wordsL_len l
    simp only [wordsL, List.length_cons, this]; omega
theorem R03_Words_loop {s : List UInt8} (h : s.length < 2 ^ 40) (he : s.length % 2 = 0) : iter (fun (st : List UInt8 × Int × List Int) => R03_Words_s1 R02_Must st.1 st.2.1 st.2.2) FUEL (s, 0, []) = some (wordsL s) := by
  have key := iter_eq (step := fun (st : List UInt8 × Int × List Int) => R03_Words_s1 R02_Must st.1 st.2.1 st.2.2) (fun st => st.2.2 ++ wordsL (s.drop st.2.1.toNat)) (fun st => st.1 = s ∧ ∃ i : Nat, st.2.1 = i ∧ i % 2 = 0 ∧ i ≤ s.length ∧ st.2.2.length ≤ i) (fun st => (s.length - st.2.1).toNat) ?_ FUEL (s, 0, []) ⟨rfl, 0, rfl, by omega, by omega, by simp⟩ (by rw [FUEL_eq]; simp only; omega)
  · rw [key]; simp
  rintro ⟨s1, p, out⟩ ⟨h1, i, h2, h3, h4, h5⟩
  simp only at h1 h2 h5 ⊢
  subst h1 h2
  unfold R03_Words_s1
  by_cases hi : i < s1.length
  · have hi2 : i + 1 < s1.length := by omega
    refine .inr ⟨(s1, ((i + 2 : Nat) : Int), out ++ [((s1[i].toNat * 256 + s1[i + 1].toNat : Nat) : Int)]), ?_, ⟨rfl, i + 2, rfl, by omega, by omega, by simp; omega⟩, by simp only; omega, ?_⟩
    · have b1 := s1[i].toNat_lt
      have b2 := s1[i + 1].toNat_lt
      rw [cond_p (by omega), R02_Must_eq (by omega), getS_two hi2, Option.bind_some, oreq_p (by omega), wI64 (by omega) (by omega), wI64 (by omega) (by omega)]; rfl
    · simp only [Int.toNat_natCast]
      rw [wordsL_two hi2]; simp
  · refine .inl ?_
    rw [cond_n (by omega)]
    simp [List.drop_eq_nil_of_le (by omega : s1.length ≤ i), wordsL]
theorem R03_Words_eq {s : List UInt8} (h : s.length < 2 ^ 39) : R03_Words s = some (wordsL s) := by
  unfold R03_Words R03_WordsF
  have ea : ((s.length : Int).tmod 2 == 1) = decide (s.length % 2 = 1) := by
    rw [Int.tmod_eq_emod_of_nonneg (by omega), Bool.eq_iff_iff, beq_iff_eq, decide_eq_true_eq]; omega
  rw [ea]
  by_cases h2 : s.length % 2 = 1
  · rw [cond_p h2, oreq_p (by omega), R03_Words_loop (by simp only [List.length_append, List.length_cons, List.length_nil]; omega) (by simp only [List.length_append, List.length_cons, List.length_nil]; omega), wordsL_pad s h2]
  · rw [cond_n h2, R03_Words_loop (by omega) (by omega)]
theorem R03_Add1_eq {l : List Int} {n : Int} (h0 : 0 ≤ n) (h1 : n < 2 ^ 62) : iter (fun st => R03_Add_s1 l st) FUEL n = some ((norm n.toNat : Nat) : Int) := by
  refine iter_eq (fun n => ((norm n.toNat : Nat) : Int)) (fun n => 0 ≤ n ∧ n < 2 ^ 62) (fun n => n.toNat) ?_ FUEL _ ⟨h0, h1⟩ (by rw [FUEL_eq]; omega)
  intro s ⟨a, b⟩
  unfold R03_Add_s1
  by_cases hs : s > 65535
  · refine .inr ⟨s % 65536 + s / 65536, ?_, ⟨by omega, by omega⟩, by omega, ?_⟩
    · rw [cond_p hs, Int.tdiv_eq_ediv_of_nonneg a, Int.tmod_eq_emod_of_nonneg a, wI64 (n := s / 65536) (by omega) (by omega), wI64 (by omega) (by omega)]
    · have : norm (s % 65536 + s / 65536).toNat = norm s.toNat :=
        (norm_eq (norm_le _) (by have := norm_mod (s % 65536 + s / 65536).toNat; omega) (by have := norm_zero (s % 65536 + s / 65536).toNat; omega)).symm
      rw [this]
  · refine .inl ?_
    rw [cond_n hs]
    have := norm_same (n := s.toNat) (by omega)
    simp only [this]
    rw [Int.toNat_of_nonneg a]
theorem R03_Add_eq {l : List Int} (hl : l.length < 2 ^ 40) (hr : ∀ e ∈ l, 0 ≤ e ∧ e ≤ 65535) : R03_Add l = some ((norm l.sum.toNat : Nat) : Int) := by
  unfold R03_Add R03_AddF
  have key := iter_eq (step := fun (st : Int × Int) => R03_Add_s2 l st.1 st.2) (fun st => ((norm (st.1 + (l.drop st.2.toNat).sum).toNat : Nat) : Int)) (fun st => 0 ≤ st.1 ∧ 0 ≤ st.2 ∧ st.2 ≤ l.length ∧ st.1 ≤ st.2 * 65535) (fun st => (l.length - st.2).toNat) ?_ FUEL (0, 0) ⟨by simp, by simp, by simp, by simp⟩ (by rw [FUEL_eq]; simp only; omega)
  · rw [key]; simp
  rintro ⟨n, p⟩ ⟨g1, g2, g3, g4⟩
  simp only at g1 g2 g3 g4 ⊢
  obtain ⟨i, rfl⟩ := Int.eq_ofNat_of_zero_le g2
  simp only [Int.toNat_natCast]
  unfold R03_Add_s2
  by_cases hi : i < l.length
  · have hx := hr l[i] (List.getElem_mem hi)
    refine .inr ⟨(n + l[i], ((i + 1 : Nat) : Int)), ?_, ⟨by simp only; omega, by simp only; omega, by simp only; omega, by simp only; omega⟩, by simp only; omega, ?_⟩
    · simp (disch := omega) only [cond_p, oreq_p, Int.toNat_natCast, List.getElem?_eq_getElem, Option.bind_some, wI64]; rfl
    · simp only [Int.toNat_natCast]
      rw [List.drop_eq_getElem_cons hi, List.sum_cons, Int.add_assoc]
  · refine .inl ?_
    rw [cond_n (by omega), R03_Add1_eq g1 (by omega), List.drop_eq_nil_of_le (by omega)]
    simp
theorem R03_Sum_eq {s : List UInt8} (h : s.length < 2 ^ 39) : R03_Sum s = some ((norm (wsum s) : Nat) : Int) := by
  unfold R03_Sum R03_SumF
  rw [R03_Words_eq h, Option.bind_some, R03_Add_eq (by rw [wordsL_len]; omega) (wordsL_rng s), wordsL_sum]; rfl
def setS (s : List UInt8) (p k n : Int) : List UInt8 := if 1 ≤ k ∧ k ≤ 8 ∧ 0 ≤ p ∧ p + k ≤ s.length then s.take p.toNat ++ be n.toNat k.toNat ++ s.drop (p + k).toNat else s
theorem R03_Set_eq {s : List UInt8} {p k n : Int} (hs : s.length < 2 ^ 40) (hn : 0 ≤ n) (hn2 : n < 2 ^ 64) : R03_Set s p k n = some (setS s p k n) := by
  unfold R03_Set R03_SetF setS
  rw [R02_Get_eq (by omega), Option.bind_some]
  unfold getS
  by_cases hc : 1 ≤ k ∧ k ≤ 8 ∧ 0 ≤ p ∧ p + k ≤ s.length
  · rw [if_pos hc, if_pos hc]
    have e2 : ((s.drop (p + k).toNat).take (s.length - (p + k).toNat)) = s.drop (p + k).toNat := List.take_of_length_le (by simp)
    simp only [Bool.not_true, cond_false]
    rw [R02_Put_eq hn hn2, Option.bind_some, oreq_p (by omega), wI64 (n := p + k) (by omega) (by omega), e2]
    unfold putS
    rw [if_pos (by omega), oreq_p (by simp; omega), oreq_p (by omega), oreq_p (by simp; omega)]
  · rw [if_neg hc, if_neg hc]; rfl
theorem R03_Of_eq {s : List UInt8} (h : s.length < 2 ^ 39) : R03_Of s = some (65535 - ((norm (wsum s) : Nat) : Int)) := by
  unfold R03_Of R03_OfF
  have := norm_le (wsum s)
  rw [R03_Sum_eq h, Option.bind_some, wI64 (by omega) (by omega)]
theorem Right_eq {s : List UInt8} (h : s.length < 2 ^ 39) : check_Right s = some (((norm (wsum s) : Nat) : Int) == 65535) := by
  unfold check_Right check_RightF
  rw [sum_eq s (by omega), Option.bind_some]
end Go.Vm.Code
namespace Go.Vm.Code
open Go Go.Vm Go.Proofs
set_option maxRecDepth 100000
set_option maxHeartbeats 4000000
set_option linter.unusedVariables false
def addr_RightF (a : api_Addr) : Option Bool :=
  cond (a.V6)
    (
    some (true))
    (
    cond (a.Hi == 0)
      (
      some (decide (a.Lo < 4294967296)))
      (
      some (false)))
def rx85 (x : Bool) : SRes := ⟨.bool x, [], []⟩
def r85 (g : api_Addr → Option Bool) : Dec := dV uvapi_Addr fun (y0 : api_Addr) => dEnd (ofG (g y0) rx85)
theorem r85_c {g : api_Addr → Option Bool} {y0 : api_Addr} {x : Bool} (hx : g y0 = some x) : r85 g [.agg ⟨[.bool y0.V6, .int .u64 y0.Hi, .int .u64 y0.Lo]⟩] [] = some (rx85 x) := (dV_eq (uvapi_Addr_c _)).trans (ofG_eq hx)
def s85 (g : api_Addr → Option Bool) : Summ := ⟨[.v], r85 g⟩
theorem r85_eq {g : api_Addr → Option Bool} {y0 : api_Addr} {x : Bool} (hx : g y0 = some x) : (s85 g).run [.agg ⟨[.bool y0.V6, .int .u64 y0.Hi, .int .u64 y0.Lo]⟩] [] = some (rx85 x) := r85_c hx
abbrev sums85 : List (Nat × Summ) := []
theorem leads85 (hS : SumsOK Try.prog (aget (sums85))) (a : api_Addr) (res : Bool) (h : addr_RightF a = some res) :
    Leads Try.prog 85 0 ⟨⟨85, 15, [(0, .agg ⟨[.bool a.V6, .int .u64 a.Hi, .int .u64 a.Lo]⟩)], [.code k85_3], [], false, none⟩, [], [], 0⟩ (fun v H _ => Res 0 (rx85 res) v H) := by
  unfold addr_RightF at h
  refine ev_ok tab_ok hS true 3000 ?_
  conv => whnf
  refine br.h h ?_ ?_ ?_
  · rfl
  · clear h; intro hb h; conv => whnf
    all_goals (cases h; exact Res.z rfl rfl rfl)
  clear h; intro hb h; conv => whnf
  refine br.h h ?_ ?_ ?_
  · rfl
  · clear h; intro hb h; conv => whnf
    all_goals (cases h; exact Res.z rfl rfl rfl)
  clear h; intro hb h; conv => whnf
  all_goals (cases h; exact Res.z rfl rfl rfl)
theorem ok85 (hS : SumsOK Try.prog (aget (sums85))) : SumOK Try.prog 85 (s85 (addr_RightF)) := by
  refine SumOK.of_leads tab_ok (fun ar os r ha hr => ?_) ⟨Try.f85, rfl, by decide, rfl⟩
  replace hr : r85 (addr_RightF) ar (conts os) = some r := hr
  unfold r85 at hr
  generalize hc : conts os = C at hr
  replace hr := dV.elim hr; obtain ⟨v0, l1, y0, rfl, e0, hr⟩ := hr; obtain rfl := uvapi_Addr_eq _ _ e0
  replace hr := dFin hr; obtain ⟨rfl, rfl, x, h, rfl⟩ := hr
  obtain rfl := kinds_nil hc
  exact ⟨_, rfl, leads85 hS _ x h⟩
def addr_Right : api_Addr → Option Bool := addr_RightF
theorem lift85 : SumOK Try.prog 85 (s85 addr_Right) := ok85 (SumsOK.of_tab trivial)
def addr_PutF (addr_Right : api_Addr → Option Bool) (octet_Put : Int → Int → Option (List UInt8)) (a : api_Addr) : Option (List UInt8) :=
  (addr_Right a).bind fun xr =>
  cond (!xr)
    (
    some ([]))
    (
    cond (a.V6)
      (
      (octet_Put a.Hi 8).bind fun p =>
      (octet_Put a.Lo 8).bind fun p1 =>
      oreq (decide (p.length + p1.length < 2 ^ 63)) <|
      some (p ++ p1))
      (
      (octet_Put a.Lo 4).bind fun p2 =>
      some (p2)))
def rx78 (x : List UInt8) : SRes := ⟨.string ⟨⟨x⟩⟩, [], []⟩
def r78 (g : api_Addr → Option (List UInt8)) : Dec := dV uvapi_Addr fun (y0 : api_Addr) => dEnd (ofG (g y0) rx78)
theorem r78_c {g : api_Addr → Option (List UInt8)} {y0 : api_Addr} {x : List UInt8} (hx : g y0 = some x) : r78 g [.agg ⟨[.bool y0.V6, .int .u64 y0.Hi, .int .u64 y0.Lo]⟩] [] = some (rx78 x) := (dV_eq (uvapi_Addr_c _)).trans (ofG_eq hx)
def s78 (g : api_Addr → Option (List UInt8)) : Summ := ⟨[.v], r78 g⟩
theorem r78_eq {g : api_Addr → Option (List UInt8)} {y0 : api_Addr} {x : List UInt8} (hx : g y0 = some x) : (s78 g).run [.agg ⟨[.bool y0.V6, .int .u64 y0.Hi, .int .u64 y0.Lo]⟩] [] = some (rx78 x) := r78_c hx
abbrev sums78 (addr_Right : api_Addr → Option Bool) (octet_Put : Int → Int → Option (List UInt8)) : List (Nat × Summ) := [(85, s85 addr_Right), (62, s62 octet_Put)]
theorem leads78 (addr_Right : api_Addr → Option Bool) (octet_Put : Int → Int → Option (List UInt8)) (hS : SumsOK Try.prog (aget (sums78 addr_Right octet_Put))) (a : api_Addr) (res : List UInt8) (h : addr_PutF addr_Right octet_Put a = some res) :
    Leads Try.prog 78 0 ⟨⟨78, 20, [(0, .agg ⟨[.bool a.V6, .int .u64 a.Hi, .int .u64 a.Lo]⟩)], [.code k78_15], [], false, none⟩, [], [], 0⟩ (fun v H _ => Res 0 (rx78 res) v H) := by
  unfold addr_PutF at h
  refine ev_ok tab_ok hS true 3000 ?_
  conv => whnf
  replace h := obind.elim h; obtain ⟨xr, hy, h⟩ := h
  refine sumK.q rfl rfl (r85_eq hy) rfl rfl rfl ?_
  conv => whnf
  refine br.h h ?_ ?_ ?_
  · rfl
  · clear h; intro hb h; conv => whnf
    all_goals (cases h; exact Res.z rfl rfl rfl)
  clear h; intro hb h; conv => whnf
  refine br.h2 h ?_ ?_ ?_
  · rfl
  · clear h; intro hb h; conv => whnf
    replace h := obind.elim h; obtain ⟨p2, hy, h⟩ := h
    refine sumK.q rfl rfl (r62_eq hy) rfl rfl rfl ?_
    conv => whnf
    all_goals (cases h; exact Res.z rfl rfl rfl)
  clear h; intro hb h; conv => whnf
  replace h := obind.elim h; obtain ⟨p, hy, h⟩ := h
  refine sumK.q rfl rfl (r62_eq hy) rfl rfl rfl ?_
  conv => whnf
  replace h := obind.elim h; obtain ⟨p1, hy, h⟩ := h
  refine sumK.q rfl rfl (r62_eq hy) rfl rfl rfl ?_
  conv => whnf
  replace h := oreq.elim h; obtain ⟨hb, h⟩ := h
  first | (refine req.intro hb ?_; conv => whnf) | skip
  all_goals (cases h; exact Res.z rfl rfl rfl)
theorem ok78 (addr_Right : api_Addr → Option Bool) (octet_Put : Int → Int → Option (List UInt8)) (hS : SumsOK Try.prog (aget (sums78 addr_Right octet_Put))) : SumOK Try.prog 78 (s78 (addr_PutF addr_Right octet_Put)) := by
  refine SumOK.of_leads tab_ok (fun ar os r ha hr => ?_) ⟨Try.f78, rfl, by decide, rfl⟩
  replace hr : r78 (addr_PutF addr_Right octet_Put) ar (conts os) = some r := hr
  unfold r78 at hr
  generalize hc : conts os = C at hr
  replace hr := dV.elim hr; obtain ⟨v0, l1, y0, rfl, e0, hr⟩ := hr; obtain rfl := uvapi_Addr_eq _ _ e0
  replace hr := dFin hr; obtain ⟨rfl, rfl, x, h, rfl⟩ := hr
  obtain rfl := kinds_nil hc
  exact ⟨_, rfl, leads78 addr_Right octet_Put hS _ x h⟩
def addr_Put : api_Addr → Option (List UInt8) := addr_PutF addr_Right octet_Put
theorem lift78 : SumOK Try.prog 78 (s78 addr_Put) := ok78 addr_Right octet_Put (SumsOK.of_tab ⟨lift85, lift62, trivial⟩)
def R04_RightF (a : api_Addr) : Option Bool :=
  cond (a.V6)
    (
    some (true))
    (
    cond (a.Hi == 0)
      (
      some (decide (a.Lo < 4294967296)))
      (
      some (false)))
def rx86 (x : Bool) : SRes := ⟨.bool x, [], []⟩
def r86 (g : api_Addr → Option Bool) : Dec := dV uvapi_Addr fun (y0 : api_Addr) => dEnd (ofG (g y0) rx86)
theorem r86_c {g : api_Addr → Option Bool} {y0 : api_Addr} {x : Bool} (hx : g y0 = some x) : r86 g [.agg ⟨[.bool y0.V6, .int .u64 y0.Hi, .int .u64 y0.Lo]⟩] [] = some (rx86 x) := (dV_eq (uvapi_Addr_c _)).trans (ofG_eq hx)
def s86 (g : api_Addr → Option Bool) : Summ := ⟨[.v], r86 g⟩
theorem r86_eq {g : api_Addr → Option Bool} {y0 : api_Addr} {x : Bool} (hx : g y0 = some x) : (s86 g).run [.agg ⟨[.bool y0.V6, .int .u64 y0.Hi, .int .u64 y0.Lo]⟩] [] = some (rx86 x) := r86_c hx
abbrev sums86 : List (Nat × Summ) := []
theorem leads86 (hS : SumsOK Try.prog (aget (sums86))) (a : api_Addr) (res : Bool) (h : R04_RightF a = some res) :
    Leads Try.prog 86 0 ⟨⟨86, 15, [(0, .agg ⟨[.bool a.V6, .int .u64 a.Hi, .int .u64 a.Lo]⟩)], [.code k86_3], [], false, none⟩, [], [], 0⟩ (fun v H _ => Res 0 (rx86 res) v H) := by
  unfold R04_RightF at h
  refine ev_ok tab_ok hS true 3000 ?_
  conv => whnf
  refine br.h h ?_ ?_ ?_
  · rfl
  · clear h; intro hb h; conv => whnf
    all_goals (cases h; exact Res.z rfl rfl rfl)
  clear h; intro hb h; conv => whnf
  refine br.h h ?_ ?_ ?_
  · rfl
  · clear h; intro hb h; conv => whnf
    all_goals (cases h; exact Res.z rfl rfl rfl)
  clear h; intro hb h; conv => whnf
  all_goals (cases h; exact Res.z rfl rfl rfl)
theorem ok86 (hS : SumsOK Try.prog (aget (sums86))) : SumOK Try.prog 86 (s86 (R04_RightF)) := by
  refine SumOK.of_leads tab_ok (fun ar os r ha hr => ?_) ⟨Try.f86, rfl, by decide, rfl⟩
  replace hr : r86 (R04_RightF) ar (conts os) = some r := hr
  unfold r86 at hr
  generalize hc : conts os = C at hr
  replace hr := dV.elim hr; obtain ⟨v0, l1, y0, rfl, e0, hr⟩ := hr; obtain rfl := uvapi_Addr_eq _ _ e0
  replace hr := dFin hr; obtain ⟨rfl, rfl, x, h, rfl⟩ := hr
  obtain rfl := kinds_nil hc
  exact ⟨_, rfl, leads86 hS _ x h⟩
def R04_Right : api_Addr → Option Bool := R04_RightF
theorem lift86 : SumOK Try.prog 86 (s86 R04_Right) := ok86 (SumsOK.of_tab trivial)
def R04_PutF (R02_Put : Int → Int → Option (List UInt8)) (R04_Right : api_Addr → Option Bool) (a : api_Addr) : Option (List UInt8) :=
  (R04_Right a).bind fun xr =>
  cond (!xr)
    (
    some ([]))
    (
    cond (a.V6)
      (
      (R02_Put a.Hi 8).bind fun p =>
      (R02_Put a.Lo 8).bind fun p1 =>
      oreq (decide (p.length + p1.length < 2 ^ 63)) <|
      some (p ++ p1))
      (
      (R02_Put a.Lo 4).bind fun p2 =>
      some (p2)))
def rx81 (x : List UInt8) : SRes := ⟨.string ⟨⟨x⟩⟩, [], []⟩
def r81 (g : api_Addr → Option (List UInt8)) : Dec := dV uvapi_Addr fun (y0 : api_Addr) => dEnd (ofG (g y0) rx81)
theorem r81_c {g : api_Addr → Option (List UInt8)} {y0 : api_Addr} {x : List UInt8} (hx : g y0 = some x) : r81 g [.agg ⟨[.bool y0.V6, .int .u64 y0.Hi, .int .u64 y0.Lo]⟩] [] = some (rx81 x) := (dV_eq (uvapi_Addr_c _)).trans (ofG_eq hx)
def s81 (g : api_Addr → Option (List UInt8)) : Summ := ⟨[.v], r81 g⟩
theorem r81_eq {g : api_Addr → Option (List UInt8)} {y0 : api_Addr} {x : List UInt8} (hx : g y0 = some x) : (s81 g).run [.agg ⟨[.bool y0.V6, .int .u64 y0.Hi, .int .u64 y0.Lo]⟩] [] = some (rx81 x) := r81_c hx
abbrev sums81 (R02_Put : Int → Int → Option (List UInt8)) (R04_Right : api_Addr → Option Bool) : List (Nat × Summ) := [(67, s67 R02_Put), (86, s86 R04_Right)]
theorem leads81 (R02_Put : Int → Int → Option (List UInt8)) (R04_Right : api_Addr → Option Bool) (hS : SumsOK Try.prog (aget (sums81 R02_Put R04_Right))) (a : api_Addr) (res : List UInt8) (h : R04_PutF R02_Put R04_Right a = some res) :
    Leads Try.prog 81 0 ⟨⟨81, 18, [(0, .agg ⟨[.bool a.V6, .int .u64 a.Hi, .int .u64 a.Lo]⟩)], [.code k81_15], [], false, none⟩, [], [], 0⟩ (fun v H _ => Res 0 (rx81 res) v H) := by
  unfold R04_PutF at h
  refine ev_ok tab_ok hS true 3000 ?_
  conv => whnf
  replace h := obind.elim h; obtain ⟨xr, hy, h⟩ := h
  refine sumK.q rfl rfl (r86_eq hy) rfl rfl rfl ?_
  conv => whnf
  refine br.h h ?_ ?_ ?_
  · rfl
  · clear h; intro hb h; conv => whnf
    all_goals (cases h; exact Res.z rfl rfl rfl)
  clear h; intro hb h; conv => whnf
  refine br.h2 h ?_ ?_ ?_
  · rfl
  · clear h; intro hb h; conv => whnf
    replace h := obind.elim h; obtain ⟨p2, hy, h⟩ := h
    refine sumK.q rfl rfl (r67_eq hy) rfl rfl rfl ?_
    conv => whnf
    all_goals (cases h; exact Res.z rfl rfl rfl)
  clear h; intro hb h; conv => whnf
  replace h := obind.elim h; obtain ⟨p, hy, h⟩ := h
  refine sumK.q rfl rfl (r67_eq hy) rfl rfl rfl ?_
  conv => whnf
  replace h := obind.elim h; obtain ⟨p1, hy, h⟩ := h
  refine sumK.q rfl rfl (r67_eq hy) rfl rfl rfl ?_
  conv => whnf
  replace h := oreq.elim h; obtain ⟨hb, h⟩ := h
  first | (refine req.intro hb ?_; conv => whnf) | skip
  all_goals (cases h; exact Res.z rfl rfl rfl)
theorem ok81 (R02_Put : Int → Int → Option (List UInt8)) (R04_Right : api_Addr → Option Bool) (hS : SumsOK Try.prog (aget (sums81 R02_Put R04_Right))) : SumOK Try.prog 81 (s81 (R04_PutF R02_Put R04_Right)) := by
  refine SumOK.of_leads tab_ok (fun ar os r ha hr => ?_) ⟨Try.f81, rfl, by decide, rfl⟩
  replace hr : r81 (R04_PutF R02_Put R04_Right) ar (conts os) = some r := hr
  unfold r81 at hr
  generalize hc : conts os = C at hr
  replace hr := dV.elim hr; obtain ⟨v0, l1, y0, rfl, e0, hr⟩ := hr; obtain rfl := uvapi_Addr_eq _ _ e0
  replace hr := dFin hr; obtain ⟨rfl, rfl, x, h, rfl⟩ := hr
  obtain rfl := kinds_nil hc
  exact ⟨_, rfl, leads81 R02_Put R04_Right hS _ x h⟩
def R04_Put : api_Addr → Option (List UInt8) := R04_PutF R02_Put R04_Right
theorem lift81 : SumOK Try.prog 81 (s81 R04_Put) := ok81 R02_Put R04_Right (SumsOK.of_tab ⟨lift67, lift86, trivial⟩)
def ipfour_row_s1 (octet_Put : Int → Int → Option (List UInt8)) (l : List Int) (i : Int) (c : List Int) : Option (Sum (Int × (List Int)) (List UInt8)) :=
  let t := decide ((wI .i64 (i + 1)) < (l.length : Int))
  cond (t)
    (
    oreq (decide ((0 : Int) ≤ i ∧ i < (l.length : Int))) <|
    (l[i.toNat]?).bind fun (e2 : Int) =>
    oreq (decide ((0 : Int) ≤ (wI .i64 (i + 1)) ∧ (wI .i64 (i + 1)) < (l.length : Int))) <|
    (l[(wI .i64 (i + 1)).toNat]?).bind fun (e3 : Int) =>
    (octet_Put (wI .u64 e2) e3).bind fun p1 =>
    oreq (decide ((c.length + p1.length) * 1 ≤ 2 ^ 47)) <|
    let row := c ++ (bI p1)
    some (.inl (wI .i64 (i + 2), row)))
    (
    oreq (decide (c.length < 2 ^ 63)) <|
    some (.inr (iB c)))
def ipfour_rowF (octet_Put : Int → Int → Option (List UInt8)) (l : List Int) : Option (List UInt8) :=
  cond (decide (1 < (l.length : Int)))
    (
    oreq (decide ((0 : Int) ≤ (0 : Int) ∧ (0 : Int) < (l.length : Int))) <|
    (l[0]?).bind fun (e : Int) =>
    oreq (decide ((0 : Int) ≤ (1 : Int) ∧ (1 : Int) < (l.length : Int))) <|
    (l[1]?).bind fun (e1 : Int) =>
    (octet_Put (wI .u64 e) e1).bind fun p =>
    oreq (decide (p.length * 1 ≤ 2 ^ 47)) <|
    iter (fun st => ipfour_row_s1 octet_Put l st.1 st.2) FUEL (2, bI p))
    (
    some ([]))
def rx77 (x : List UInt8) : SRes := ⟨.string ⟨⟨x⟩⟩, [], [none]⟩
def r77 (g : (List Int) → Option (List UInt8)) : Dec := dSl 0 1 (unL (asI .i64)) fun (y0 : List Int) => dEnd (ofG (g y0) rx77)
theorem r77_c {g : (List Int) → Option (List UInt8)} {y0 : List Int} {x : List UInt8} (hx : g y0 = some x) : r77 g [.slice (some ⟨0, 0, none⟩) y0.length 1] [some (vI .i64 y0)] = some (rx77 x) := (dSl_eq (unI_vI _ _)).trans (ofG_eq hx)
def s77 (g : (List Int) → Option (List UInt8)) : Summ := ⟨[.sl 1], r77 g⟩
theorem r77_eq {g : (List Int) → Option (List UInt8)} {y0 : List Int} {x : List UInt8} (hx : g y0 = some x) : (s77 g).run [.slice (some ⟨0, 0, none⟩) y0.length 1] [some (vI .i64 y0)] = some (rx77 x) := r77_c hx
abbrev sums77 (octet_Put : Int → Int → Option (List UInt8)) : List (Nat × Summ) := [(62, s62 octet_Put)]
def head77_1 (l : List Int) (i : Int) (c : List Int) : VM :=
  ⟨⟨77, 25, [(0, .slice (some ⟨0, 0, none⟩) l.length 1), (3, .pointer (some ⟨1, 0, none⟩)), (4, .int .i64 i)], [.code k77_10, .inLoop k77_10, .inBlock 0, .code k77_15], [], false, none⟩, [], [(0, .row false (vI .i64 l)), (1, .ty 114 [.pointer (some ⟨1, 0, none⟩), .func (.method "") ⟨[.slice (some ⟨12, 0, none⟩) c.length 1]⟩ ⟨[]⟩]), (12, .ty 5 (vI .u8 c))], 13⟩
theorem loop77_1 (octet_Put : Int → Int → Option (List UInt8)) (hS : SumsOK Try.prog (aget (sums77 octet_Put))) (l : List Int) (res : List UInt8) : ∀ fuel (st : Int × (List Int)) (o : List UInt8), iter (fun st => ipfour_row_s1 octet_Put l st.1 st.2) fuel st = some o → (o = res) →
    Leads Try.prog 77 1 (head77_1 l st.1 st.2) (fun v H _ => Res 1 (rx77 res) v H) := by
  intro fuel st o h hc
  refine iter_leads (head := fun st => head77_1 l st.1 st.2) (C := fun o => (o = res)) ?_ fuel st o h hc
  clear h hc o st fuel
  intro st o h hc
  obtain ⟨i, c⟩ := st
  replace h : ipfour_row_s1 octet_Put l i c = some o := h
  show Leads Try.prog 77 1 (head77_1 l i c) (fun v H _ => Res 1 (rx77 res) v H)
  unfold ipfour_row_s1 at h
  refine ev_ok tab_ok hS true 3000 ?_
  conv => whnf
  let t : Bool := decide ((wI .i64 (i + 1)) < (l.length : Int))
  refine br.h2 h ?_ ?_ ?_
  · rfl
  · clear h; intro hb h; conv => whnf
    replace h := oreq.elim h; obtain ⟨hb, h⟩ := h
    refine req.intro (us_req rfl (by first | rfl | (simp; done)) (by first | rfl | omega | (simp; done) | (simp; omega) | (simp at *; omega)) (of_decide_eq_true hb)) ?_
    conv => whnf
    refine pk_us ?_
    conv => whnf
    all_goals (cases h; cases hc)
    all_goals exact Res.of [] rfl nw_0 (by decide) js_0 (wr_n wr_0)
  clear h; intro hb h; conv => whnf
  replace h := oreq.elim h; obtain ⟨hb, h⟩ := h
  first | (refine req.intro hb ?_; conv => whnf) | skip
  replace h := obind.elim h; obtain ⟨e2, hy, h⟩ := h
  refine rd.I hy (by first | rfl | (rw [Nat.zero_add, Nat.mul_one]; done) | omega) ?_
  conv => whnf
  replace h := oreq.elim h; obtain ⟨hb, h⟩ := h
  first | (refine req.intro hb ?_; conv => whnf) | skip
  replace h := obind.elim h; obtain ⟨e3, hy, h⟩ := h
  refine rd.I hy (by first | rfl | (rw [Nat.zero_add, Nat.mul_one]; done) | omega) ?_
  conv => whnf
  replace h := obind.elim h; obtain ⟨p1, hy, h⟩ := h
  refine sumK.q rfl rfl (r62_eq hy) rfl rfl rfl ?_
  conv => whnf
  replace h := oreq.elim h; obtain ⟨hb, h⟩ := h
  refine req.intro (apb_req (of_decide_eq_true hb) (by first | rfl | omega | (simp; done) | (simp; omega) | (simp at *; omega)) rfl rfl (by first | rfl | omega | (simp; done) | (simp; omega) | (simp at *; omega)) (by first | rfl | exact vI_one _ _ | exact vS_one _ | exact vB_one _ | exact vT_one (by first | exact cicmp_Message_one | exact capi_Addr_one | exact coctet_Reader_one | exact cArr2_Int_one | exact cArr4_Arr2_Int_one | exact cruntime_errorAddressString_one | exact cudp_Head_one | exact cipsix_Head_one | exact cipfour_Head_one | exact capi_Tuple_one | exact ctcp_Head_one) _ | (rw [ofBytes_vI]; exact vI_one _ _) | simp [vI_one, vS_one, vB_one, vI_drop, vI_take, vS_drop, vS_take]) rfl) ?_
  conv => whnf
  let row : List Int := c ++ (bI p1)
  refine pk_apW (xs := c) (ys := bI p1) (ofBytes_vI _) (by first | (simp; done) | (simp; omega)) (by first | (simp; done) | (simp; omega)) ?_
  conv => whnf
  cases h; simp only [Sum.elim_inl, head77_1] at hc
  refine Leads.re hc [(0, 0), (1, 1), (12, 23)] rfl ?_ ?_ <;> (repeat' first | exact trivial | refine ⟨⟨_, rfl, rfl⟩, ?_⟩ | refine ⟨⟨_, _, rfl, rfl, .rowF (vI_flat _ _) id⟩, ?_⟩ | refine ⟨⟨_, _, rfl, rfl, .rowF (vS_flat _) id⟩, ?_⟩ | refine ⟨⟨_, _, rfl, rfl, .rowF (vB_flat _) id⟩, ?_⟩ | refine ⟨⟨_, _, rfl, rfl, .rowF (vT_flat (by first | exact cicmp_Message_flat | exact capi_Addr_flat | exact coctet_Reader_flat | exact cArr2_Int_flat | exact cArr4_Arr2_Int_flat | exact cruntime_errorAddressString_flat | exact cudp_Head_flat | exact cipsix_Head_flat | exact cipfour_Head_flat | exact capi_Tuple_flat | exact ctcp_Head_flat) _) id⟩, ?_⟩ | refine ⟨⟨_, _, rfl, rfl, .tyF (vI_flat _ _)⟩, ?_⟩ | refine ⟨⟨_, _, rfl, rfl, .ty rfl⟩, ?_⟩ | refine ⟨⟨_, _, rfl, rfl, .cells rfl⟩, ?_⟩ | refine ⟨⟨_, _, rfl, rfl, .row rfl id⟩, ?_⟩ | refine ⟨⟨_, _, rfl, rfl, .cr rfl⟩, ?_⟩ | refine ⟨⟨_, _, rfl, rfl, .rc rfl⟩, ?_⟩ | refine ⟨⟨_, _, rfl, rfl, .marks⟩, ?_⟩ | refine ⟨⟨_, _, rfl, rfl, .siter _ _⟩, ?_⟩ | refine ⟨⟨_, _, rfl, rfl, .loop rfl rfl rfl rfl (by repeat' first | exact trivial | refine ⟨rfl, ?_⟩) rfl rfl rfl rfl⟩, ?_⟩)
theorem leads77 (octet_Put : Int → Int → Option (List UInt8)) (hS : SumsOK Try.prog (aget (sums77 octet_Put))) (l : List Int) (res : List UInt8) (h : ipfour_rowF octet_Put l = some res) :
    Leads Try.prog 77 1 ⟨⟨77, 25, [(0, .slice (some ⟨0, 0, none⟩) l.length 1)], [.code k77_18], [], false, none⟩, [], [(0, .row false (vI .i64 l))], 1⟩ (fun v H _ => Res 1 (rx77 res) v H) := by
  unfold ipfour_rowF at h
  refine ev_ok tab_ok hS true 3000 ?_
  conv => whnf
  refine ev_ok tab_ok hS true 3000 ?_
  conv => whnf
  refine br.h2 h ?_ ?_ ?_
  · rfl
  · clear h; intro hb h; conv => whnf
    all_goals (cases h)
    all_goals exact Res.of [] rfl nw_0 (by decide) js_0 (wr_n wr_0)
  clear h; intro hb h; conv => whnf
  replace h := oreq.elim h; obtain ⟨hb, h⟩ := h
  first | (refine req.intro hb ?_; conv => whnf) | skip
  replace h := obind.elim h; obtain ⟨e, hy, h⟩ := h
  refine rd.I hy (by first | rfl | (rw [Nat.zero_add, Nat.mul_one]; done) | omega) ?_
  conv => whnf
  replace h := oreq.elim h; obtain ⟨hb, h⟩ := h
  first | (refine req.intro hb ?_; conv => whnf) | skip
  replace h := obind.elim h; obtain ⟨e1, hy, h⟩ := h
  refine rd.I hy (by first | rfl | (rw [Nat.zero_add, Nat.mul_one]; done) | omega) ?_
  conv => whnf
  replace h := obind.elim h; obtain ⟨p, hy, h⟩ := h
  refine sumK.q rfl rfl (r62_eq hy) rfl rfl rfl ?_
  conv => whnf
  replace h := oreq.elim h; obtain ⟨hb, h⟩ := h
  refine req.intro (ap0b_req (of_decide_eq_true hb) (by first | rfl | omega | (simp; done) | (simp; omega) | (simp at *; omega)) rfl rfl) ?_
  conv => whnf
  refine pk_ap0I (ys := bI p) (ofBytes_vI _) (by first | rfl | (simp; done) | (simp; omega)) ?_
  conv => whnf
  have hl := loop77_1 octet_Put hS _ res _ _ _ h rfl; simp only [head77_1] at hl
  refine Leads.re hl [(0, 0), (1, 1), (12, 12)] rfl ?_ ?_ <;> (repeat' first | exact trivial | refine ⟨⟨_, rfl, rfl⟩, ?_⟩ | refine ⟨⟨_, _, rfl, rfl, .rowF (vI_flat _ _) id⟩, ?_⟩ | refine ⟨⟨_, _, rfl, rfl, .rowF (vS_flat _) id⟩, ?_⟩ | refine ⟨⟨_, _, rfl, rfl, .rowF (vB_flat _) id⟩, ?_⟩ | refine ⟨⟨_, _, rfl, rfl, .rowF (vT_flat (by first | exact cicmp_Message_flat | exact capi_Addr_flat | exact coctet_Reader_flat | exact cArr2_Int_flat | exact cArr4_Arr2_Int_flat | exact cruntime_errorAddressString_flat | exact cudp_Head_flat | exact cipsix_Head_flat | exact cipfour_Head_flat | exact capi_Tuple_flat | exact ctcp_Head_flat) _) id⟩, ?_⟩ | refine ⟨⟨_, _, rfl, rfl, .tyF (vI_flat _ _)⟩, ?_⟩ | refine ⟨⟨_, _, rfl, rfl, .ty rfl⟩, ?_⟩ | refine ⟨⟨_, _, rfl, rfl, .cells rfl⟩, ?_⟩ | refine ⟨⟨_, _, rfl, rfl, .row rfl id⟩, ?_⟩ | refine ⟨⟨_, _, rfl, rfl, .cr rfl⟩, ?_⟩ | refine ⟨⟨_, _, rfl, rfl, .rc rfl⟩, ?_⟩ | refine ⟨⟨_, _, rfl, rfl, .marks⟩, ?_⟩ | refine ⟨⟨_, _, rfl, rfl, .siter _ _⟩, ?_⟩ | refine ⟨⟨_, _, rfl, rfl, .loop rfl rfl rfl rfl (by repeat' first | exact trivial | refine ⟨rfl, ?_⟩) rfl rfl rfl rfl⟩, ?_⟩)
theorem ok77 (octet_Put : Int → Int → Option (List UInt8)) (hS : SumsOK Try.prog (aget (sums77 octet_Put))) : SumOK Try.prog 77 (s77 (ipfour_rowF octet_Put)) := by
  refine SumOK.of_leads tab_ok (fun ar os r ha hr => ?_) ⟨Try.f77, rfl, by decide, rfl⟩
  replace hr : r77 (ipfour_rowF octet_Put) ar (conts os) = some r := hr
  unfold r77 at hr
  generalize hc : conts os = C at hr
  have hq := dSl.elim hr; clear hr; obtain ⟨c0, l1, C, y0, rfl, rfl, e0, hr⟩ := hq; obtain rfl := unI_eq e0
  replace hr := dFin hr; obtain ⟨rfl, rfl, x, h, rfl⟩ := hr
  obtain ⟨os, rfl, ha, hc⟩ := kinds_some ha hc
  obtain rfl := kinds_nil hc
  exact ⟨_, rfl, leads77 octet_Put hS _ x h⟩
def ipfour_row : (List Int) → Option (List UInt8) := ipfour_rowF octet_Put
theorem lift77 : SumOK Try.prog 77 (s77 ipfour_row) := ok77 octet_Put (SumsOK.of_tab ⟨lift62, trivial⟩)
def ipfour_PseudoF (addr_Put : api_Addr → Option (List UInt8)) (addr_Right : api_Addr → Option Bool) (ipfour_row : (List Int) → Option (List UInt8)) (src : api_Addr) (dst : api_Addr) (proto : Int) (n : Int) : Option (List UInt8) :=
  (addr_Right src).bind fun xr =>
  cond (!xr)
    (
    some ([]))
    (
    (addr_Right dst).bind fun xr1 =>
    cond (!xr1)
      (
      some ([]))
      (
      cond (!(src.V6 == dst.V6))
        (
        some ([]))
        (
        (addr_Put src).bind fun p =>
        (addr_Put dst).bind fun p1 =>
        oreq (decide (p.length + p1.length < 2 ^ 63)) <|
        cond (src.V6)
          (
          (ipfour_row [n, 4, 0, 3, proto, 1]).bind fun xr2 =>
          oreq (decide ((p ++ p1).length + xr2.length < 2 ^ 63)) <|
          some ((p ++ p1) ++ xr2))
          (
          (ipfour_row [0, 1, proto, 1, n, 2]).bind fun xr3 =>
          oreq (decide ((p ++ p1).length + xr3.length < 2 ^ 63)) <|
          some ((p ++ p1) ++ xr3)))))
def rx27 (x : List UInt8) : SRes := ⟨.string ⟨⟨x⟩⟩, [], []⟩
def r27 (g : api_Addr → api_Addr → Int → Int → Option (List UInt8)) : Dec := dV uvapi_Addr fun (y0 : api_Addr) => dV uvapi_Addr fun (y1 : api_Addr) => dV (asI .i64) fun (y2 : Int) => dV (asI .i64) fun (y3 : Int) => dEnd (ofG (g y0 y1 y2 y3) rx27)
theorem r27_c {g : api_Addr → api_Addr → Int → Int → Option (List UInt8)} {y0 : api_Addr} {y1 : api_Addr} {y2 : Int} {y3 : Int} {x : List UInt8} (hx : g y0 y1 y2 y3 = some x) : r27 g [.agg ⟨[.bool y0.V6, .int .u64 y0.Hi, .int .u64 y0.Lo]⟩, .agg ⟨[.bool y1.V6, .int .u64 y1.Hi, .int .u64 y1.Lo]⟩, .int .i64 y2, .int .i64 y3] [] = some (rx27 x) := (dV_eq (uvapi_Addr_c _)).trans ((dV_eq (uvapi_Addr_c _)).trans ((dV_eq (asI_c _)).trans ((dV_eq (asI_c _)).trans (ofG_eq hx))))
def s27 (g : api_Addr → api_Addr → Int → Int → Option (List UInt8)) : Summ := ⟨[.v, .v, .v, .v], r27 g⟩
theorem r27_eq {g : api_Addr → api_Addr → Int → Int → Option (List UInt8)} {y0 : api_Addr} {y1 : api_Addr} {y2 : Int} {y3 : Int} {x : List UInt8} (hx : g y0 y1 y2 y3 = some x) : (s27 g).run [.agg ⟨[.bool y0.V6, .int .u64 y0.Hi, .int .u64 y0.Lo]⟩, .agg ⟨[.bool y1.V6, .int .u64 y1.Hi, .int .u64 y1.Lo]⟩, .int .i64 y2, .int .i64 y3] [] = some (rx27 x) := r27_c hx
abbrev sums27 (addr_Put : api_Addr → Option (List UInt8)) (addr_Right : api_Addr → Option Bool) (ipfour_row : (List Int) → Option (List UInt8)) : List (Nat × Summ) := [(78, s78 addr_Put), (85, s85 addr_Right), (77, s77 ipfour_row)]
theorem leads27 (addr_Put : api_Addr → Option (List UInt8)) (addr_Right : api_Addr → Option Bool) (ipfour_row : (List Int) → Option (List UInt8)) (hS : SumsOK Try.prog (aget (sums27 addr_Put addr_Right ipfour_row))) (src : api_Addr) (dst : api_Addr) (proto : Int) (n : Int) (res : List UInt8) (h : ipfour_PseudoF addr_Put addr_Right ipfour_row src dst proto n = some res) :
    Leads Try.prog 27 0 ⟨⟨27, 44, [(0, .agg ⟨[.bool src.V6, .int .u64 src.Hi, .int .u64 src.Lo]⟩), (1, .agg ⟨[.bool dst.V6, .int .u64 dst.Hi, .int .u64 dst.Lo]⟩), (2, .int .i64 proto), (3, .int .i64 n)], [.code k27_17], [], false, none⟩, [], [], 0⟩ (fun v H _ => Res 0 (rx27 res) v H) := by
  unfold ipfour_PseudoF at h
  refine ev_ok tab_ok hS true 3000 ?_
  conv => whnf
  replace h := obind.elim h; obtain ⟨xr, hy, h⟩ := h
  refine sumK.q rfl rfl (r85_eq hy) rfl rfl rfl ?_
  conv => whnf
  refine br.h h ?_ ?_ ?_
  · rfl
  · clear h; intro hb h; conv => whnf
    all_goals (cases h; exact Res.z rfl rfl rfl)
  clear h; intro hb h; conv => whnf
  replace h := obind.elim h; obtain ⟨xr1, hy, h⟩ := h
  refine sumK.q rfl rfl (r85_eq hy) rfl rfl rfl ?_
  conv => whnf
  refine br.h h ?_ ?_ ?_
  · rfl
  · clear h; intro hb h; conv => whnf
    all_goals (cases h; exact Res.z rfl rfl rfl)
  clear h; intro hb h; conv => whnf
  refine br.h h ?_ ?_ ?_
  · rfl
  · clear h; intro hb h; conv => whnf
    all_goals (cases h; exact Res.z rfl rfl rfl)
  clear h; intro hb h; conv => whnf
  replace h := obind.elim h; obtain ⟨p, hy, h⟩ := h
  refine sumK.q rfl rfl (r78_eq hy) rfl rfl rfl ?_
  conv => whnf
  replace h := obind.elim h; obtain ⟨p1, hy, h⟩ := h
  refine sumK.q rfl rfl (r78_eq hy) rfl rfl rfl ?_
  conv => whnf
  replace h := oreq.elim h; obtain ⟨hb, h⟩ := h
  first | (refine req.intro hb ?_; conv => whnf) | skip
  refine br.h h ?_ ?_ ?_
  · rfl
  · clear h; intro hb h; conv => whnf
    replace h := obind.elim h; obtain ⟨xr2, hy, h⟩ := h
    refine sumK.introF [] (sumRun_of (aqs := [.slice (some ⟨0, 0, none⟩) ([n, 4, 0, 3, proto, 1] : List Int).length 1]) (ws := [.win 5 0 (6 * 1) false]) (n := 0) (m := 0) (t' := 6) (ra_cons (by first | rfl | exact ra_allI rfl rfl (by first | rfl | omega) (by first | rfl | (simp; done)) | exact ra_slI rfl rfl (by first | rfl | omega) (by first | rfl | omega) (by first | omega | (simp at *; omega))) rfl ra_nil) rfl (by rfl) (r77_eq hy) rfl rfl rfl rfl (wb_skip rfl wb_nil) an_nil rfl) ?_
    conv => whnf
    replace h := oreq.elim h; obtain ⟨hb, h⟩ := h
    first | (refine req.intro hb ?_; conv => whnf) | skip
    all_goals (cases h; exact Res.z rfl rfl rfl)
  clear h; intro hb h; conv => whnf
  replace h := obind.elim h; obtain ⟨xr3, hy, h⟩ := h
  refine sumK.introF [] (sumRun_of (aqs := [.slice (some ⟨0, 0, none⟩) ([0, 1, proto, 1, n, 2] : List Int).length 1]) (ws := [.win 5 0 (6 * 1) false]) (n := 0) (m := 0) (t' := 6) (ra_cons (by first | rfl | exact ra_allI rfl rfl (by first | rfl | omega) (by first | rfl | (simp; done)) | exact ra_slI rfl rfl (by first | rfl | omega) (by first | rfl | omega) (by first | omega | (simp at *; omega))) rfl ra_nil) rfl (by rfl) (r77_eq hy) rfl rfl rfl rfl (wb_skip rfl wb_nil) an_nil rfl) ?_
  conv => whnf
  replace h := oreq.elim h; obtain ⟨hb, h⟩ := h
  first | (refine req.intro hb ?_; conv => whnf) | skip
  all_goals (cases h; exact Res.z rfl rfl rfl)
theorem ok27 (addr_Put : api_Addr → Option (List UInt8)) (addr_Right : api_Addr → Option Bool) (ipfour_row : (List Int) → Option (List UInt8)) (hS : SumsOK Try.prog (aget (sums27 addr_Put addr_Right ipfour_row))) : SumOK Try.prog 27 (s27 (ipfour_PseudoF addr_Put addr_Right ipfour_row)) := by
  refine SumOK.of_leads tab_ok (fun ar os r ha hr => ?_) ⟨Try.f27, rfl, by decide, rfl⟩
  replace hr : r27 (ipfour_PseudoF addr_Put addr_Right ipfour_row) ar (conts os) = some r := hr
  unfold r27 at hr
  generalize hc : conts os = C at hr
  replace hr := dV.elim hr; obtain ⟨v0, l1, y0, rfl, e0, hr⟩ := hr; obtain rfl := uvapi_Addr_eq _ _ e0
  replace hr := dV.elim hr; obtain ⟨v1, l2, y1, rfl, e1, hr⟩ := hr; obtain rfl := uvapi_Addr_eq _ _ e1
  replace hr := dV.elim hr; obtain ⟨v2, l3, y2, rfl, e2, hr⟩ := hr; obtain rfl := asI_eq _ _ _ e2
  replace hr := dV.elim hr; obtain ⟨v3, l4, y3, rfl, e3, hr⟩ := hr; obtain rfl := asI_eq _ _ _ e3
  replace hr := dFin hr; obtain ⟨rfl, rfl, x, h, rfl⟩ := hr
  obtain rfl := kinds_nil hc
  exact ⟨_, rfl, leads27 addr_Put addr_Right ipfour_row hS _ _ _ _ x h⟩
def ipfour_Pseudo : api_Addr → api_Addr → Int → Int → Option (List UInt8) := ipfour_PseudoF addr_Put addr_Right ipfour_row
theorem lift27 : SumOK Try.prog 27 (s27 ipfour_Pseudo) := ok27 addr_Put addr_Right ipfour_row (SumsOK.of_tab ⟨lift78, lift85, lift77, trivial⟩)
def R05_numF (R02_Put : Int → Int → Option (List UInt8)) (n : Int) (k : Int) : Option (List UInt8) :=
  (R02_Put (wI .u64 n) k).bind fun p =>
  some (p)
def rx80 (x : List UInt8) : SRes := ⟨.string ⟨⟨x⟩⟩, [], []⟩
def r80 (g : Int → Int → Option (List UInt8)) : Dec := dV (asI .i64) fun (y0 : Int) => dV (asI .i64) fun (y1 : Int) => dEnd (ofG (g y0 y1) rx80)
theorem r80_c {g : Int → Int → Option (List UInt8)} {y0 : Int} {y1 : Int} {x : List UInt8} (hx : g y0 y1 = some x) : r80 g [.int .i64 y0, .int .i64 y1] [] = some (rx80 x) := (dV_eq (asI_c _)).trans ((dV_eq (asI_c _)).trans (ofG_eq hx))
def s80 (g : Int → Int → Option (List UInt8)) : Summ := ⟨[.v, .v], r80 g⟩
theorem r80_eq {g : Int → Int → Option (List UInt8)} {y0 : Int} {y1 : Int} {x : List UInt8} (hx : g y0 y1 = some x) : (s80 g).run [.int .i64 y0, .int .i64 y1] [] = some (rx80 x) := r80_c hx
abbrev sums80 (R02_Put : Int → Int → Option (List UInt8)) : List (Nat × Summ) := [(67, s67 R02_Put)]
theorem leads80 (R02_Put : Int → Int → Option (List UInt8)) (hS : SumsOK Try.prog (aget (sums80 R02_Put))) (n : Int) (k : Int) (res : List UInt8) (h : R05_numF R02_Put n k = some res) :
    Leads Try.prog 80 0 ⟨⟨80, 9, [(0, .int .i64 n), (1, .int .i64 k)], [.code k80_3], [], false, none⟩, [], [], 0⟩ (fun v H _ => Res 0 (rx80 res) v H) := by
  unfold R05_numF at h
  refine ev_ok tab_ok hS true 3000 ?_
  conv => whnf
  replace h := obind.elim h; obtain ⟨p, hy, h⟩ := h
  refine sumK.q rfl rfl (r67_eq hy) rfl rfl rfl ?_
  conv => whnf
  all_goals (cases h; exact Res.z rfl rfl rfl)
theorem ok80 (R02_Put : Int → Int → Option (List UInt8)) (hS : SumsOK Try.prog (aget (sums80 R02_Put))) : SumOK Try.prog 80 (s80 (R05_numF R02_Put)) := by
  refine SumOK.of_leads tab_ok (fun ar os r ha hr => ?_) ⟨Try.f80, rfl, by decide, rfl⟩
  replace hr : r80 (R05_numF R02_Put) ar (conts os) = some r := hr
  unfold r80 at hr
  generalize hc : conts os = C at hr
  replace hr := dV.elim hr; obtain ⟨v0, l1, y0, rfl, e0, hr⟩ := hr; obtain rfl := asI_eq _ _ _ e0
  replace hr := dV.elim hr; obtain ⟨v1, l2, y1, rfl, e1, hr⟩ := hr; obtain rfl := asI_eq _ _ _ e1
  replace hr := dFin hr; obtain ⟨rfl, rfl, x, h, rfl⟩ := hr
  obtain rfl := kinds_nil hc
  exact ⟨_, rfl, leads80 R02_Put hS _ _ x h⟩
def R05_num : Int → Int → Option (List UInt8) := R05_numF R02_Put
theorem lift80 : SumOK Try.prog 80 (s80 R05_num) := ok80 R02_Put (SumsOK.of_tab ⟨lift67, trivial⟩)
def R05_PseudoF (R04_Put : api_Addr → Option (List UInt8)) (R04_Right : api_Addr → Option Bool) (R05_num : Int → Int → Option (List UInt8)) (src : api_Addr) (dst : api_Addr) (proto : Int) (n : Int) : Option (List UInt8) :=
  (R04_Right src).bind fun xr =>
  cond (!xr)
    (
    some ([]))
    (
    (R04_Right dst).bind fun xr1 =>
    cond (!xr1)
      (
      some ([]))
      (
      cond (!(src.V6 == dst.V6))
        (
        some ([]))
        (
        cond (src.V6)
          (
          (R04_Put src).bind fun p =>
          (R04_Put dst).bind fun p1 =>
          oreq (decide (p.length + p1.length < 2 ^ 63)) <|
          (R05_num n 4).bind fun n1 =>
          oreq (decide ((p ++ p1).length + n1.length < 2 ^ 63)) <|
          (R05_num 0 3).bind fun n2 =>
          oreq (decide (((p ++ p1) ++ n1).length + n2.length < 2 ^ 63)) <|
          (R05_num proto 1).bind fun n3 =>
          oreq (decide ((((p ++ p1) ++ n1) ++ n2).length + n3.length < 2 ^ 63)) <|
          some ((((p ++ p1) ++ n1) ++ n2) ++ n3))
          (
          (R04_Put src).bind fun p2 =>
          (R04_Put dst).bind fun p3 =>
          oreq (decide (p2.length + p3.length < 2 ^ 63)) <|
          (R05_num 0 1).bind fun n4 =>
          oreq (decide ((p2 ++ p3).length + n4.length < 2 ^ 63)) <|
          (R05_num proto 1).bind fun n5 =>
          oreq (decide (((p2 ++ p3) ++ n4).length + n5.length < 2 ^ 63)) <|
          (R05_num n 2).bind fun n6 =>
          oreq (decide ((((p2 ++ p3) ++ n4) ++ n5).length + n6.length < 2 ^ 63)) <|
          some ((((p2 ++ p3) ++ n4) ++ n5) ++ n6)))))
def rx28 (x : List UInt8) : SRes := ⟨.string ⟨⟨x⟩⟩, [], []⟩
def r28 (g : api_Addr → api_Addr → Int → Int → Option (List UInt8)) : Dec := dV uvapi_Addr fun (y0 : api_Addr) => dV uvapi_Addr fun (y1 : api_Addr) => dV (asI .i64) fun (y2 : Int) => dV (asI .i64) fun (y3 : Int) => dEnd (ofG (g y0 y1 y2 y3) rx28)
theorem r28_c {g : api_Addr → api_Addr → Int → Int → Option (List UInt8)} {y0 : api_Addr} {y1 : api_Addr} {y2 : Int} {y3 : Int} {x : List UInt8} (hx : g y0 y1 y2 y3 = some x) : r28 g [.agg ⟨[.bool y0.V6, .int .u64 y0.Hi, .int .u64 y0.Lo]⟩, .agg ⟨[.bool y1.V6, .int .u64 y1.Hi, .int .u64 y1.Lo]⟩, .int .i64 y2, .int .i64 y3] [] = some (rx28 x) := (dV_eq (uvapi_Addr_c _)).trans ((dV_eq (uvapi_Addr_c _)).trans ((dV_eq (asI_c _)).trans ((dV_eq (asI_c _)).trans (ofG_eq hx))))
def s28 (g : api_Addr → api_Addr → Int → Int → Option (List UInt8)) : Summ := ⟨[.v, .v, .v, .v], r28 g⟩
theorem r28_eq {g : api_Addr → api_Addr → Int → Int → Option (List UInt8)} {y0 : api_Addr} {y1 : api_Addr} {y2 : Int} {y3 : Int} {x : List UInt8} (hx : g y0 y1 y2 y3 = some x) : (s28 g).run [.agg ⟨[.bool y0.V6, .int .u64 y0.Hi, .int .u64 y0.Lo]⟩, .agg ⟨[.bool y1.V6, .int .u64 y1.Hi, .int .u64 y1.Lo]⟩, .int .i64 y2, .int .i64 y3] [] = some (rx28 x) := r28_c hx
abbrev sums28 (R04_Put : api_Addr → Option (List UInt8)) (R04_Right : api_Addr → Option Bool) (R05_num : Int → Int → Option (List UInt8)) : List (Nat × Summ) := [(81, s81 R04_Put), (86, s86 R04_Right), (80, s80 R05_num)]
theorem leads28 (R04_Put : api_Addr → Option (List UInt8)) (R04_Right : api_Addr → Option Bool) (R05_num : Int → Int → Option (List UInt8)) (hS : SumsOK Try.prog (aget (sums28 R04_Put R04_Right R05_num))) (src : api_Addr) (dst : api_Addr) (proto : Int) (n : Int) (res : List UInt8) (h : R05_PseudoF R04_Put R04_Right R05_num src dst proto n = some res) :
    Leads Try.prog 28 0 ⟨⟨28, 52, [(0, .agg ⟨[.bool src.V6, .int .u64 src.Hi, .int .u64 src.Lo]⟩), (1, .agg ⟨[.bool dst.V6, .int .u64 dst.Hi, .int .u64 dst.Lo]⟩), (2, .int .i64 proto), (3, .int .i64 n)], [.code k28_15], [], false, none⟩, [], [], 0⟩ (fun v H _ => Res 0 (rx28 res) v H) := by
  unfold R05_PseudoF at h
  refine ev_ok tab_ok hS true 3000 ?_
  conv => whnf
  replace h := obind.elim h; obtain ⟨xr, hy, h⟩ := h
  refine sumK.q rfl rfl (r86_eq hy) rfl rfl rfl ?_
  conv => whnf
  refine br.h h ?_ ?_ ?_
  · rfl
  · clear h; intro hb h; conv => whnf
    all_goals (cases h; exact Res.z rfl rfl rfl)
  clear h; intro hb h; conv => whnf
  replace h := obind.elim h; obtain ⟨xr1, hy, h⟩ := h
  refine sumK.q rfl rfl (r86_eq hy) rfl rfl rfl ?_
  conv => whnf
  refine br.h h ?_ ?_ ?_
  · rfl
  · clear h; intro hb h; conv => whnf
    all_goals (cases h; exact Res.z rfl rfl rfl)
  clear h; intro hb h; conv => whnf
  refine br.h h ?_ ?_ ?_
  · rfl
  · clear h; intro hb h; conv => whnf
    all_goals (cases h; exact Res.z rfl rfl rfl)
  clear h; intro hb h; conv => whnf
  refine br.h h ?_ ?_ ?_
  · rfl
  · clear h; intro hb h; conv => whnf
    replace h := obind.elim h; obtain ⟨p, hy, h⟩ := h
    refine sumK.q rfl rfl (r81_eq hy) rfl rfl rfl ?_
    conv => whnf
    replace h := obind.elim h; obtain ⟨p1, hy, h⟩ := h
    refine sumK.q rfl rfl (r81_eq hy) rfl rfl rfl ?_
    conv => whnf
    replace h := oreq.elim h; obtain ⟨hb, h⟩ := h
    first | (refine req.intro hb ?_; conv => whnf) | skip
    replace h := obind.elim h; obtain ⟨n1, hy, h⟩ := h
    refine sumK.q rfl rfl (r80_eq hy) rfl rfl rfl ?_
    conv => whnf
    replace h := oreq.elim h; obtain ⟨hb, h⟩ := h
    first | (refine req.intro hb ?_; conv => whnf) | skip
    replace h := obind.elim h; obtain ⟨n2, hy, h⟩ := h
    refine sumK.q rfl rfl (r80_eq hy) rfl rfl rfl ?_
    conv => whnf
    replace h := oreq.elim h; obtain ⟨hb, h⟩ := h
    first | (refine req.intro hb ?_; conv => whnf) | skip
    replace h := obind.elim h; obtain ⟨n3, hy, h⟩ := h
    refine sumK.q rfl rfl (r80_eq hy) rfl rfl rfl ?_
    conv => whnf
    replace h := oreq.elim h; obtain ⟨hb, h⟩ := h
    first | (refine req.intro hb ?_; conv => whnf) | skip
    all_goals (cases h; exact Res.z rfl rfl rfl)
  clear h; intro hb h; conv => whnf
  replace h := obind.elim h; obtain ⟨p2, hy, h⟩ := h
  refine sumK.q rfl rfl (r81_eq hy) rfl rfl rfl ?_
  conv => whnf
  replace h := obind.elim h; obtain ⟨p3, hy, h⟩ := h
  refine sumK.q rfl rfl (r81_eq hy) rfl rfl rfl ?_
  conv => whnf
  replace h := oreq.elim h; obtain ⟨hb, h⟩ := h
  first | (refine req.intro hb ?_; conv => whnf) | skip
  replace h := obind.elim h; obtain ⟨n4, hy, h⟩ := h
  refine sumK.q rfl rfl (r80_eq hy) rfl rfl rfl ?_
  conv => whnf
  replace h := oreq.elim h; obtain ⟨hb, h⟩ := h
  first | (refine req.intro hb ?_; conv => whnf) | skip
  replace h := obind.elim h; obtain ⟨n5, hy, h⟩ := h
  refine sumK.q rfl rfl (r80_eq hy) rfl rfl rfl ?_
  conv => whnf
  replace h := oreq.elim h; obtain ⟨hb, h⟩ := h
  first | (refine req.intro hb ?_; conv => whnf) | skip
  replace h := obind.elim h; obtain ⟨n6, hy, h⟩ := h
  refine sumK.q rfl rfl (r80_eq hy) rfl rfl rfl ?_
  conv => whnf
  replace h := oreq.elim h; obtain ⟨hb, h⟩ := h
  first | (refine req.intro hb ?_; conv => whnf) | skip
  all_goals (cases h; exact Res.z rfl rfl rfl)
theorem ok28 (R04_Put : api_Addr → Option (List UInt8)) (R04_Right : api_Addr → Option Bool) (R05_num : Int → Int → Option (List UInt8)) (hS : SumsOK Try.prog (aget (sums28 R04_Put R04_Right R05_num))) : SumOK Try.prog 28 (s28 (R05_PseudoF R04_Put R04_Right R05_num)) := by
  refine SumOK.of_leads tab_ok (fun ar os r ha hr => ?_) ⟨Try.f28, rfl, by decide, rfl⟩
  replace hr : r28 (R05_PseudoF R04_Put R04_Right R05_num) ar (conts os) = some r := hr
  unfold r28 at hr
  generalize hc : conts os = C at hr
  replace hr := dV.elim hr; obtain ⟨v0, l1, y0, rfl, e0, hr⟩ := hr; obtain rfl := uvapi_Addr_eq _ _ e0
  replace hr := dV.elim hr; obtain ⟨v1, l2, y1, rfl, e1, hr⟩ := hr; obtain rfl := uvapi_Addr_eq _ _ e1
  replace hr := dV.elim hr; obtain ⟨v2, l3, y2, rfl, e2, hr⟩ := hr; obtain rfl := asI_eq _ _ _ e2
  replace hr := dV.elim hr; obtain ⟨v3, l4, y3, rfl, e3, hr⟩ := hr; obtain rfl := asI_eq _ _ _ e3
  replace hr := dFin hr; obtain ⟨rfl, rfl, x, h, rfl⟩ := hr
  obtain rfl := kinds_nil hc
  exact ⟨_, rfl, leads28 R04_Put R04_Right R05_num hS _ _ _ _ x h⟩
def R05_Pseudo : api_Addr → api_Addr → Int → Int → Option (List UInt8) := R05_PseudoF R04_Put R04_Right R05_num
theorem lift28 : SumOK Try.prog 28 (s28 R05_Pseudo) := ok28 R04_Put R04_Right R05_num (SumsOK.of_tab ⟨lift81, lift86, lift80, trivial⟩)
end Go.Vm.Code
namespace Go.Vm.Code
open Go Go.Vm
def A4 (a : api_Addr) : Prop := 0 ≤ a.Hi ∧ a.Hi < 2 ^ 64 ∧ 0 ≤ a.Lo ∧ a.Lo < 2 ^ 64
def aok (a : api_Addr) : Bool := a.V6 || (a.Hi == 0 && decide (a.Lo < 4294967296))
theorem a4Right_eq (a : api_Addr) : R04_Right a = some (aok a) := by
  unfold R04_Right R04_RightF aok
  cases a.V6
  · cases (a.Hi == 0) <;> rfl
  · rfl
def abytes (a : api_Addr) : List UInt8 := cond a.V6 (be a.Hi.toNat 8 ++ be a.Lo.toNat 8) (be a.Lo.toNat 4)
theorem abytes_len (a : api_Addr) : (abytes a).length = cond a.V6 16 4 := by unfold abytes; cases a.V6 <;> simp
theorem putS_be {n : Int} {k : Nat} (h : 1 ≤ k ∧ k ≤ 8) : putS n (k : Int) = be n.toNat k := by unfold putS; rw [if_pos (by omega)]; rfl
theorem a4Put_eq {a : api_Addr} (h : A4 a) (hr : aok a = true) : R04_Put a = some (abytes a) := by
  obtain ⟨h1, h2, h3, h4⟩ := h
  unfold R04_Put R04_PutF abytes
  rw [a4Right_eq, Option.bind_some, hr]
  simp only [Bool.not_true, cond_false]
  cases a.V6
  · simp only [cond_false]
    rw [R02_Put_eq h3 h4, Option.bind_some, show (4 : Int) = ((4 : Nat) : Int) from rfl, putS_be (by omega)]
  · simp only [cond_true]
    rw [R02_Put_eq h1 h2, Option.bind_some, R02_Put_eq h3 h4, Option.bind_some, show (8 : Int) = ((8 : Nat) : Int) from rfl, putS_be (by omega), putS_be (by omega), oreq_p (by simp)]
theorem num5_eq {n k : Int} (h0 : 0 ≤ n) (h1 : n < 2 ^ 63) : R05_num n k = some (putS n k) := by
  unfold R05_num R05_numF
  rw [wU64 h0 (by omega), R02_Put_eq h0 (by omega)]; rfl
theorem putS_len (n k : Int) : (putS n k).length ≤ 8 := by unfold putS; split <;> simp <;> omega
def pseu (src dst : api_Addr) (p n : Int) : List UInt8 :=
  if aok src = true ∧ aok dst = true ∧ src.V6 = dst.V6 then abytes src ++ abytes dst ++ cond src.V6 (putS n 4 ++ putS 0 3 ++ putS p 1) (putS 0 1 ++ putS p 1 ++ putS n 2) else []
theorem pseu_len (src dst : api_Addr) (p n : Int) : (pseu src dst p n).length ≤ 56 := by
  have l1 := putS_len n 4
  have l2 := putS_len 0 3
  have l3 := putS_len p 1
  have l4 := putS_len 0 1
  have l5 := putS_len n 2
  unfold pseu
  split
  · rw [List.length_append, List.length_append, abytes_len, abytes_len]
    cases src.V6 <;> cases dst.V6 <;> simp <;> omega
  · simp
theorem pseudo5_eq {src dst : api_Addr} {p n : Int} (h1 : A4 src) (h2 : A4 dst) (hp : 0 ≤ p ∧ p < 2 ^ 63) (hn : 0 ≤ n ∧ n < 2 ^ 63) : R05_Pseudo src dst p n = some (pseu src dst p n) := by
  unfold R05_Pseudo R05_PseudoF pseu
  rw [a4Right_eq, a4Right_eq, Option.bind_some]
  cases e1 : aok src
  · simp
  simp only [Bool.not_true, cond_false, Option.bind_some]
  cases e2 : aok dst
  · simp
  simp only [Bool.not_true, cond_false]
  by_cases e3 : src.V6 = dst.V6
  · rw [if_pos (by simpa using e3), show (src.V6 == dst.V6) = true by simpa using e3]
    simp only [Bool.not_true, cond_false]
    have l1 := abytes_len src
    have l2 := abytes_len dst
    have m1 := putS_len n 4
    have m2 := putS_len 0 3
    have m3 := putS_len p 1
    have m4 := putS_len 0 1
    have m5 := putS_len n 2
    have b1 : (abytes src).length ≤ 16 := by rw [l1]; cases src.V6 <;> decide
    have b2 : (abytes dst).length ≤ 16 := by rw [l2]; cases dst.V6 <;> decide
    rw [a4Put_eq h1 e1, a4Put_eq h2 e2, num5_eq hn.1 hn.2, num5_eq (n := 0) (k := 3) (by omega) (by omega), num5_eq hp.1 hp.2, num5_eq (n := 0) (k := 1) (by omega) (by omega), num5_eq hn.1 hn.2]
    cases src.V6
    · simp only [cond_false, Option.bind_some]
      rw [oreq_p (by omega), oreq_p (by simp only [List.length_append]; omega), oreq_p (by simp only [List.length_append]; omega), oreq_p (by simp only [List.length_append]; omega)]
      simp only [List.append_assoc]
    · simp only [cond_true, Option.bind_some]
      rw [oreq_p (by omega), oreq_p (by simp only [List.length_append]; omega), oreq_p (by simp only [List.length_append]; omega), oreq_p (by simp only [List.length_append]; omega)]
      simp only [List.append_assoc]
  · rw [if_neg (fun h => e3 h.2.2), show (src.V6 == dst.V6) = false by simpa using e3]; rfl
theorem wU64_rng (n : Int) : 0 ≤ wI .u64 n ∧ wI .u64 n < 2 ^ 64 := by rw [wU64m]; omega
theorem num5W_eq (n k : Int) : R05_num n k = some (putS (wI .u64 n) k) := by
  unfold R05_num R05_numF
  rw [R02_Put_eq (wU64_rng n).1 (wU64_rng n).2]; rfl
end Go.Vm.Code
namespace Go.Vm.Code
open Go Go.Vm Go.Proofs
set_option maxRecDepth 100000
set_option maxHeartbeats 4000000
set_option linter.unusedVariables false
def octet_Reader_BadF (ra0 : octet_Reader) : Option (Bool × octet_Reader) :=
  cond (!ra0.made)
    (
    some ((true, ra0)))
    (
    some ((ra0.bad, ra0)))
def rx72 (x : Bool × octet_Reader) : SRes := ⟨.bool x.1, [], [some [.string ⟨⟨x.2.s⟩⟩, .bool x.2.made, .bool x.2.bad]]⟩
def r72 (g : octet_Reader → Option (Bool × octet_Reader)) : Dec := dPt 0 unoctet_Reader fun (y0 : octet_Reader) => dEnd (ofG (g y0) rx72)
theorem r72_c {g : octet_Reader → Option (Bool × octet_Reader)} {y0 : octet_Reader} {x : Bool × octet_Reader} (hx : g y0 = some x) : r72 g [.pointer (some ⟨0, 0, none⟩)] [some [.string ⟨⟨y0.s⟩⟩, .bool y0.made, .bool y0.bad]] = some (rx72 x) := (dPt_eq (unoctet_Reader_c _)).trans (ofG_eq hx)
def s72 (g : octet_Reader → Option (Bool × octet_Reader)) : Summ := ⟨[.pt 3], r72 g⟩
theorem r72_eq {g : octet_Reader → Option (Bool × octet_Reader)} {y0 : octet_Reader} {x : Bool × octet_Reader} (hx : g y0 = some x) : (s72 g).run [.pointer (some ⟨0, 0, none⟩)] [some [.string ⟨⟨y0.s⟩⟩, .bool y0.made, .bool y0.bad]] = some (rx72 x) := r72_c hx
abbrev sums72 : List (Nat × Summ) := []
theorem leads72 (hS : SumsOK Try.prog (aget (sums72))) (ra0 : octet_Reader) (res : Bool × octet_Reader) (h : octet_Reader_BadF ra0 = some res) :
    Leads Try.prog 72 1 ⟨⟨72, 18, [(0, .pointer (some ⟨0, 0, none⟩))], [.code k72_3], [], false, none⟩, [], [(0, .cells [.string ⟨⟨ra0.s⟩⟩, .bool ra0.made, .bool ra0.bad])], 1⟩ (fun v H _ => Res 1 (rx72 res) v H) := by
  unfold octet_Reader_BadF at h
  refine ev_ok tab_ok hS true 3000 ?_
  conv => whnf
  refine br.h h ?_ ?_ ?_
  · rfl
  · clear h; intro hb h; conv => whnf
    all_goals (cases h)
    all_goals exact Res.of [] rfl nw_0 (by decide) js_0 (wr_s (rfl) (hs_cells rfl) wr_0)
  clear h; intro hb h; conv => whnf
  all_goals (cases h)
  all_goals exact Res.of [] rfl nw_0 (by decide) js_0 (wr_s (rfl) (hs_cells rfl) wr_0)
theorem ok72 (hS : SumsOK Try.prog (aget (sums72))) : SumOK Try.prog 72 (s72 (octet_Reader_BadF)) := by
  refine SumOK.of_leads tab_ok (fun ar os r ha hr => ?_) ⟨Try.f72, rfl, by decide, rfl⟩
  replace hr : r72 (octet_Reader_BadF) ar (conts os) = some r := hr
  unfold r72 at hr
  generalize hc : conts os = C at hr
  have hq := dPt.elim hr; clear hr; obtain ⟨c0, l1, C, y0, rfl, rfl, e0, hr⟩ := hq; obtain rfl := unoctet_Reader_eq _ _ e0
  replace hr := dFin hr; obtain ⟨rfl, rfl, x, h, rfl⟩ := hr
  obtain ⟨os, rfl, ha, hc⟩ := kinds_some ha hc
  obtain rfl := kinds_nil hc
  exact ⟨_, rfl, leads72 hS _ x h⟩
def octet_Reader_Bad : octet_Reader → Option (Bool × octet_Reader) := octet_Reader_BadF
theorem lift72 : SumOK Try.prog 72 (s72 octet_Reader_Bad) := ok72 (SumsOK.of_tab trivial)
def octet_Reader_TextF (octet_Reader_Bad : octet_Reader → Option (Bool × octet_Reader)) (ra0 : octet_Reader) (n : Int) : Option ((List UInt8) × octet_Reader) :=
  (octet_Reader_Bad ra0).bind fun b =>
  cond (b.1)
    (
    some (([], b.2)))
    (
    cond (decide (n < 0))
      (
      some (([], octet_Reader.mk b.2.s b.2.made true)))
      (
      cond (decide (n > (b.2.s.length : Int)))
        (
        some (([], octet_Reader.mk b.2.s b.2.made true)))
        (
        oreq (decide ((0 : Int) ≤ n ∧ n ≤ (b.2.s.length : Int))) <|
        oreq (decide ((0 : Int) ≤ n ∧ n ≤ (b.2.s.length : Int))) <|
        let t := (b.2.s.drop n.toNat).take (b.2.s.length - n.toNat)
        some ((b.2.s.take n.toNat, octet_Reader.mk t b.2.made b.2.bad)))))
def rx83 (x : (List UInt8) × octet_Reader) : SRes := ⟨.string ⟨⟨x.1⟩⟩, [], [some [.string ⟨⟨x.2.s⟩⟩, .bool x.2.made, .bool x.2.bad]]⟩
def r83 (g : octet_Reader → Int → Option ((List UInt8) × octet_Reader)) : Dec := dPt 0 unoctet_Reader fun (y0 : octet_Reader) => dV (asI .i64) fun (y1 : Int) => dEnd (ofG (g y0 y1) rx83)
theorem r83_c {g : octet_Reader → Int → Option ((List UInt8) × octet_Reader)} {y0 : octet_Reader} {y1 : Int} {x : (List UInt8) × octet_Reader} (hx : g y0 y1 = some x) : r83 g [.pointer (some ⟨0, 0, none⟩), .int .i64 y1] [some [.string ⟨⟨y0.s⟩⟩, .bool y0.made, .bool y0.bad]] = some (rx83 x) := (dPt_eq (unoctet_Reader_c _)).trans ((dV_eq (asI_c _)).trans (ofG_eq hx))
def s83 (g : octet_Reader → Int → Option ((List UInt8) × octet_Reader)) : Summ := ⟨[.pt 3, .v], r83 g⟩
theorem r83_eq {g : octet_Reader → Int → Option ((List UInt8) × octet_Reader)} {y0 : octet_Reader} {y1 : Int} {x : (List UInt8) × octet_Reader} (hx : g y0 y1 = some x) : (s83 g).run [.pointer (some ⟨0, 0, none⟩), .int .i64 y1] [some [.string ⟨⟨y0.s⟩⟩, .bool y0.made, .bool y0.bad]] = some (rx83 x) := r83_c hx
abbrev sums83 (octet_Reader_Bad : octet_Reader → Option (Bool × octet_Reader)) : List (Nat × Summ) := [(72, s72 octet_Reader_Bad)]
theorem leads83 (octet_Reader_Bad : octet_Reader → Option (Bool × octet_Reader)) (hS : SumsOK Try.prog (aget (sums83 octet_Reader_Bad))) (ra0 : octet_Reader) (n : Int) (res : (List UInt8) × octet_Reader) (h : octet_Reader_TextF octet_Reader_Bad ra0 n = some res) :
    Leads Try.prog 83 1 ⟨⟨83, 38, [(0, .pointer (some ⟨0, 0, none⟩)), (1, .int .i64 n)], [.code k83_21], [], false, none⟩, [], [(0, .cells [.string ⟨⟨ra0.s⟩⟩, .bool ra0.made, .bool ra0.bad])], 1⟩ (fun v H _ => Res 1 (rx83 res) v H) := by
  unfold octet_Reader_TextF at h
  refine ev_ok tab_ok hS true 3000 ?_
  conv => whnf
  replace h := obind.elim h; obtain ⟨b, hy, h⟩ := h
  refine sumK.introF [0] (sumRun_of (aqs := [.pointer (some ⟨0, 0, none⟩)]) (ws := [.win 0 0 3 true]) (n := 0) (m := 0) (t' := 1) (ra_cons rfl rfl ra_nil) rfl (by rfl) (r72_eq hy) rfl rfl rfl rfl (wb_win rfl rfl rfl ⟨rfl, Nat.le_of_ble_eq_true rfl⟩ rfl rfl wb_nil) an_nil rfl) ?_
  conv => whnf
  refine br.h h ?_ ?_ ?_
  · rfl
  · clear h; intro hb h; conv => whnf
    all_goals (cases h)
    all_goals exact Res.of [] rfl nw_0 (by decide) js_0 (wr_s (rfl) (hs_cells rfl) wr_0)
  clear h; intro hb h; conv => whnf
  refine br.h h ?_ ?_ ?_
  · rfl
  · clear h; intro hb h; conv => whnf
    all_goals (cases h)
    all_goals exact Res.of [] rfl nw_0 (by decide) js_0 (wr_s (rfl) (hs_cells rfl) wr_0)
  clear h; intro hb h; conv => whnf
  refine br.h h ?_ ?_ ?_
  · rfl
  · clear h; intro hb h; conv => whnf
    all_goals (cases h)
    all_goals exact Res.of [] rfl nw_0 (by decide) js_0 (wr_s (rfl) (hs_cells rfl) wr_0)
  clear h; intro hb h; conv => whnf
  replace h := oreq.elim h; obtain ⟨hb, h⟩ := h
  first | (refine req.intro hb ?_; conv => whnf) | skip
  replace h := oreq.elim h; obtain ⟨hb, h⟩ := h
  first | (refine req.intro hb ?_; conv => whnf) | skip
  let t : List UInt8 := (b.2.s.drop n.toNat).take (b.2.s.length - n.toNat)
  all_goals (cases h)
  all_goals exact Res.of [] rfl nw_0 (by decide) js_0 (wr_s (rfl) (hs_cells rfl) wr_0)
theorem ok83 (octet_Reader_Bad : octet_Reader → Option (Bool × octet_Reader)) (hS : SumsOK Try.prog (aget (sums83 octet_Reader_Bad))) : SumOK Try.prog 83 (s83 (octet_Reader_TextF octet_Reader_Bad)) := by
  refine SumOK.of_leads tab_ok (fun ar os r ha hr => ?_) ⟨Try.f83, rfl, by decide, rfl⟩
  replace hr : r83 (octet_Reader_TextF octet_Reader_Bad) ar (conts os) = some r := hr
  unfold r83 at hr
  generalize hc : conts os = C at hr
  have hq := dPt.elim hr; clear hr; obtain ⟨c0, l1, C, y0, rfl, rfl, e0, hr⟩ := hq; obtain rfl := unoctet_Reader_eq _ _ e0
  replace hr := dV.elim hr; obtain ⟨v1, l2, y1, rfl, e1, hr⟩ := hr; obtain rfl := asI_eq _ _ _ e1
  replace hr := dFin hr; obtain ⟨rfl, rfl, x, h, rfl⟩ := hr
  obtain ⟨os, rfl, ha, hc⟩ := kinds_some ha hc
  obtain rfl := kinds_nil hc
  exact ⟨_, rfl, leads83 octet_Reader_Bad hS _ _ x h⟩
def octet_Reader_Text : octet_Reader → Int → Option ((List UInt8) × octet_Reader) := octet_Reader_TextF octet_Reader_Bad
theorem lift83 : SumOK Try.prog 83 (s83 octet_Reader_Text) := ok83 octet_Reader_Bad (SumsOK.of_tab ⟨lift72, trivial⟩)
def octet_Reader_NumF (octet_Get : (List UInt8) → Int → Int → Option (Int × Bool)) (octet_Reader_Text : octet_Reader → Int → Option ((List UInt8) × octet_Reader)) (ra0 : octet_Reader) (k : Int) : Option (Int × octet_Reader) :=
  cond (decide (k < 1))
    (
    (octet_Reader_Text ra0 (-1)).bind fun t =>
    (octet_Get t.1 0 (-1)).bind fun xg =>
    some ((wI .i64 xg.1, t.2)))
    (
    cond (decide (k > 7))
      (
      (octet_Reader_Text ra0 (-1)).bind fun t1 =>
      (octet_Get t1.1 0 (-1)).bind fun xg1 =>
      some ((wI .i64 xg1.1, t1.2)))
      (
      (octet_Reader_Text ra0 k).bind fun t2 =>
      (octet_Get t2.1 0 k).bind fun xg2 =>
      some ((wI .i64 xg2.1, t2.2))))
def rx71 (x : Int × octet_Reader) : SRes := ⟨.int .i64 x.1, [], [some [.string ⟨⟨x.2.s⟩⟩, .bool x.2.made, .bool x.2.bad]]⟩
def r71 (g : octet_Reader → Int → Option (Int × octet_Reader)) : Dec := dPt 0 unoctet_Reader fun (y0 : octet_Reader) => dV (asI .i64) fun (y1 : Int) => dEnd (ofG (g y0 y1) rx71)
theorem r71_c {g : octet_Reader → Int → Option (Int × octet_Reader)} {y0 : octet_Reader} {y1 : Int} {x : Int × octet_Reader} (hx : g y0 y1 = some x) : r71 g [.pointer (some ⟨0, 0, none⟩), .int .i64 y1] [some [.string ⟨⟨y0.s⟩⟩, .bool y0.made, .bool y0.bad]] = some (rx71 x) := (dPt_eq (unoctet_Reader_c _)).trans ((dV_eq (asI_c _)).trans (ofG_eq hx))
def s71 (g : octet_Reader → Int → Option (Int × octet_Reader)) : Summ := ⟨[.pt 3, .v], r71 g⟩
theorem r71_eq {g : octet_Reader → Int → Option (Int × octet_Reader)} {y0 : octet_Reader} {y1 : Int} {x : Int × octet_Reader} (hx : g y0 y1 = some x) : (s71 g).run [.pointer (some ⟨0, 0, none⟩), .int .i64 y1] [some [.string ⟨⟨y0.s⟩⟩, .bool y0.made, .bool y0.bad]] = some (rx71 x) := r71_c hx
abbrev sums71 (octet_Get : (List UInt8) → Int → Int → Option (Int × Bool)) (octet_Reader_Text : octet_Reader → Int → Option ((List UInt8) × octet_Reader)) : List (Nat × Summ) := [(101, s101 octet_Get), (83, s83 octet_Reader_Text)]
theorem leads71 (octet_Get : (List UInt8) → Int → Int → Option (Int × Bool)) (octet_Reader_Text : octet_Reader → Int → Option ((List UInt8) × octet_Reader)) (hS : SumsOK Try.prog (aget (sums71 octet_Get octet_Reader_Text))) (ra0 : octet_Reader) (k : Int) (res : Int × octet_Reader) (h : octet_Reader_NumF octet_Get octet_Reader_Text ra0 k = some res) :
    Leads Try.prog 71 1 ⟨⟨71, 23, [(0, .pointer (some ⟨0, 0, none⟩)), (1, .int .i64 k)], [.code k71_10], [], false, none⟩, [], [(0, .cells [.string ⟨⟨ra0.s⟩⟩, .bool ra0.made, .bool ra0.bad])], 1⟩ (fun v H _ => Res 1 (rx71 res) v H) := by
  unfold octet_Reader_NumF at h
  refine ev_ok tab_ok hS true 3000 ?_
  conv => whnf
  refine br.h h ?_ ?_ ?_
  · rfl
  · clear h; intro hb h; conv => whnf
    replace h := obind.elim h; obtain ⟨t, hy, h⟩ := h
    refine sumK.introF [0] (sumRun_of (aqs := [.pointer (some ⟨0, 0, none⟩), .int .i64 (-1)]) (ws := [.win 0 0 3 true]) (n := 0) (m := 0) (t' := 1) (ra_cons rfl rfl (ra_cons rfl rfl ra_nil)) rfl (by rfl) (r83_eq hy) rfl rfl rfl rfl (wb_win rfl rfl rfl ⟨rfl, Nat.le_of_ble_eq_true rfl⟩ rfl rfl wb_nil) an_nil rfl) ?_
    conv => whnf
    replace h := obind.elim h; obtain ⟨xg, hy, h⟩ := h
    refine sumK.q rfl rfl (r101_eq hy) rfl rfl rfl ?_
    conv => whnf
    all_goals (cases h)
    all_goals exact Res.of [] rfl nw_0 (by decide) js_0 (wr_s (rfl) (hs_cells rfl) wr_0)
  clear h; intro hb h; conv => whnf
  refine br.h h ?_ ?_ ?_
  · rfl
  · clear h; intro hb h; conv => whnf
    replace h := obind.elim h; obtain ⟨t1, hy, h⟩ := h
    refine sumK.introF [0] (sumRun_of (aqs := [.pointer (some ⟨0, 0, none⟩), .int .i64 (-1)]) (ws := [.win 0 0 3 true]) (n := 0) (m := 0) (t' := 1) (ra_cons rfl rfl (ra_cons rfl rfl ra_nil)) rfl (by rfl) (r83_eq hy) rfl rfl rfl rfl (wb_win rfl rfl rfl ⟨rfl, Nat.le_of_ble_eq_true rfl⟩ rfl rfl wb_nil) an_nil rfl) ?_
    conv => whnf
    replace h := obind.elim h; obtain ⟨xg1, hy, h⟩ := h
    refine sumK.q rfl rfl (r101_eq hy) rfl rfl rfl ?_
    conv => whnf
    all_goals (cases h)
    all_goals exact Res.of [] rfl nw_0 (by decide) js_0 (wr_s (rfl) (hs_cells rfl) wr_0)
  clear h; intro hb h; conv => whnf
  replace h := obind.elim h; obtain ⟨t2, hy, h⟩ := h
  refine sumK.introF [0] (sumRun_of (aqs := [.pointer (some ⟨0, 0, none⟩), .int .i64 k]) (ws := [.win 0 0 3 true]) (n := 0) (m := 0) (t' := 1) (ra_cons rfl rfl (ra_cons rfl rfl ra_nil)) rfl (by rfl) (r83_eq hy) rfl rfl rfl rfl (wb_win rfl rfl rfl ⟨rfl, Nat.le_of_ble_eq_true rfl⟩ rfl rfl wb_nil) an_nil rfl) ?_
  conv => whnf
  replace h := obind.elim h; obtain ⟨xg2, hy, h⟩ := h
  refine sumK.q rfl rfl (r101_eq hy) rfl rfl rfl ?_
  conv => whnf
  all_goals (cases h)
  all_goals exact Res.of [] rfl nw_0 (by decide) js_0 (wr_s (rfl) (hs_cells rfl) wr_0)
theorem ok71 (octet_Get : (List UInt8) → Int → Int → Option (Int × Bool)) (octet_Reader_Text : octet_Reader → Int → Option ((List UInt8) × octet_Reader)) (hS : SumsOK Try.prog (aget (sums71 octet_Get octet_Reader_Text))) : SumOK Try.prog 71 (s71 (octet_Reader_NumF octet_Get octet_Reader_Text)) := by
  refine SumOK.of_leads tab_ok (fun ar os r ha hr => ?_) ⟨Try.f71, rfl, by decide, rfl⟩
  replace hr : r71 (octet_Reader_NumF octet_Get octet_Reader_Text) ar (conts os) = some r := hr
  unfold r71 at hr
  generalize hc : conts os = C at hr
  have hq := dPt.elim hr; clear hr; obtain ⟨c0, l1, C, y0, rfl, rfl, e0, hr⟩ := hq; obtain rfl := unoctet_Reader_eq _ _ e0
  replace hr := dV.elim hr; obtain ⟨v1, l2, y1, rfl, e1, hr⟩ := hr; obtain rfl := asI_eq _ _ _ e1
  replace hr := dFin hr; obtain ⟨rfl, rfl, x, h, rfl⟩ := hr
  obtain ⟨os, rfl, ha, hc⟩ := kinds_some ha hc
  obtain rfl := kinds_nil hc
  exact ⟨_, rfl, leads71 octet_Get octet_Reader_Text hS _ _ x h⟩
def octet_Reader_Num : octet_Reader → Int → Option (Int × octet_Reader) := octet_Reader_NumF octet_Get octet_Reader_Text
theorem lift71 : SumOK Try.prog 71 (s71 octet_Reader_Num) := ok71 octet_Get octet_Reader_Text (SumsOK.of_tab ⟨lift101, lift83, trivial⟩)
def octet_NewF (s : List UInt8) : Option octet_Reader :=
  some (octet_Reader.mk s true false)
def rx70 (x : octet_Reader) : SRes := ⟨.pointer (some ⟨0, 0, none⟩), [[.string ⟨⟨x.s⟩⟩, .bool x.made, .bool x.bad]], []⟩
def r70 (g : (List UInt8) → Option octet_Reader) : Dec := dV asS fun (y0 : List UInt8) => dEnd (ofG (g y0) rx70)
theorem r70_c {g : (List UInt8) → Option octet_Reader} {y0 : List UInt8} {x : octet_Reader} (hx : g y0 = some x) : r70 g [.string ⟨⟨y0⟩⟩] [] = some (rx70 x) := (dV_eq (asS_c)).trans (ofG_eq hx)
def s70 (g : (List UInt8) → Option octet_Reader) : Summ := ⟨[.v], r70 g⟩
theorem r70_eq {g : (List UInt8) → Option octet_Reader} {y0 : List UInt8} {x : octet_Reader} (hx : g y0 = some x) : (s70 g).run [.string ⟨⟨y0⟩⟩] [] = some (rx70 x) := r70_c hx
abbrev sums70 : List (Nat × Summ) := []
theorem leads70 (hS : SumsOK Try.prog (aget (sums70))) (s : List UInt8) (res : octet_Reader) (h : octet_NewF s = some res) :
    Leads Try.prog 70 0 ⟨⟨70, 6, [(0, .string ⟨⟨s⟩⟩)], [.code k70_3], [], false, none⟩, [], [], 0⟩ (fun v H _ => Res 0 (rx70 res) v H) := by
  unfold octet_NewF at h
  refine ev_ok tab_ok hS true 3000 ?_
  conv => whnf
  all_goals (cases h)
  all_goals exact Res.of [0] rfl (nw_s (rfl) (hs_cells rfl) nw_0) (by decide) (js_l (by decide) js_0) wr_0
theorem ok70 (hS : SumsOK Try.prog (aget (sums70))) : SumOK Try.prog 70 (s70 (octet_NewF)) := by
  refine SumOK.of_leads tab_ok (fun ar os r ha hr => ?_) ⟨Try.f70, rfl, by decide, rfl⟩
  replace hr : r70 (octet_NewF) ar (conts os) = some r := hr
  unfold r70 at hr
  generalize hc : conts os = C at hr
  replace hr := dV.elim hr; obtain ⟨v0, l1, y0, rfl, e0, hr⟩ := hr; obtain rfl := asS_eq _ _ e0
  replace hr := dFin hr; obtain ⟨rfl, rfl, x, h, rfl⟩ := hr
  obtain rfl := kinds_nil hc
  exact ⟨_, rfl, leads70 hS _ x h⟩
def octet_New : (List UInt8) → Option octet_Reader := octet_NewF
theorem lift70 : SumOK Try.prog 70 (s70 octet_New) := ok70 (SumsOK.of_tab trivial)
end Go.Vm.Code
namespace Go.Vm.Code
open Go Go.Vm
def rdr (r : octet_Reader) (k : Int) : octet_Reader := if r.bad = true ∨ k < 0 ∨ k > r.s.length then ⟨r.s, true, true⟩ else ⟨r.s.drop k.toNat, true, false⟩
def rdt (r : octet_Reader) (k : Int) : List UInt8 := if r.bad = true ∨ k < 0 ∨ k > r.s.length then [] else r.s.take k.toNat
theorem rBad_eq {r : octet_Reader} (h : r.made = true) : octet_Reader_Bad r = some (r.bad, r) := by
  unfold octet_Reader_Bad octet_Reader_BadF
  rw [h]; rfl
theorem rText_eq {r : octet_Reader} {k : Int} (h : r.made = true) : octet_Reader_Text r k = some (rdt r k, rdr r k) := by
  unfold octet_Reader_Text octet_Reader_TextF rdt rdr
  rw [rBad_eq h, Option.bind_some]
  simp only []
  obtain ⟨s, m, b⟩ := r
  simp only at h ⊢
  subst h
  cases b with
  | true => simp
  | false =>
    rw [cond_false]
    by_cases h1 : k < 0
    · rw [cond_p h1, if_pos (by omega), if_pos (by omega)]
    rw [cond_n h1]
    by_cases h2 : k > s.length
    · rw [cond_p h2, if_pos (by omega), if_pos (by omega)]
    · have e : (s.drop k.toNat).take (s.length - k.toNat) = s.drop k.toNat := List.take_of_length_le (by simp)
      rw [cond_n h2, oreq_p (by omega), oreq_p (by omega), if_neg (by simp; omega), if_neg (by simp; omega), e]
theorem rdt_len (r : octet_Reader) (k : Int) : (rdt r k).length ≤ r.s.length := by
  unfold rdt; split
  · simp
  · rw [List.length_take]; omega
def rdn (r : octet_Reader) (k : Int) : Int := (valL (rdt r (if k < 1 ∨ k > 7 then -1 else k)) : Nat)
theorem rNum_eq {r : octet_Reader} {k : Int} (h : r.made = true) (hl : r.s.length < 2 ^ 61) : octet_Reader_Num r k = some (rdn r k, rdr r (if k < 1 ∨ k > 7 then -1 else k)) := by
  unfold octet_Reader_Num octet_Reader_NumF rdn
  have bad : octet_Reader_Text r (-1) = some ([], rdr r (-1)) := by
    rw [rText_eq h]; unfold rdt; rw [if_pos (by omega)]
  have e0 : rdt r (-1) = [] := by unfold rdt; rw [if_pos (by omega)]
  by_cases h1 : k < 1
  · rw [cond_p h1, bad, Option.bind_some, octet_Get_eq (by simp), if_pos (by omega), Option.bind_some, e0]; rfl
  rw [cond_n h1]
  by_cases h2 : k > 7
  · rw [cond_p h2, bad, Option.bind_some, octet_Get_eq (by simp), if_pos (by omega), Option.bind_some, e0]; rfl
  have hlen := rdt_len r k
  rw [cond_n h2, rText_eq h, Option.bind_some, octet_Get_eq (by simp only []; omega), Option.bind_some, if_neg (by omega)]
  simp only []
  unfold getS
  by_cases hc : r.bad = true ∨ k < 0 ∨ k > r.s.length
  · have e : rdt r k = [] := by unfold rdt; rw [if_pos hc]
    rw [e, if_neg (by simp; omega)]; rfl
  · have hl2 : (rdt r k).length = k.toNat := by unfold rdt; rw [if_neg hc]; simp; omega
    rw [if_pos (by omega)]
    have e2 : ((rdt r k).drop (0 : Int).toNat).take k.toNat = rdt r k := by
      rw [show (0 : Int).toNat = 0 from rfl, List.drop_zero, List.take_of_length_le (by omega)]
    have hv : valL (rdt r k) < 2 ^ 56 := by
      have := val_lt (rdt r k)
      rw [hl2] at this
      exact pow_step this (by omega)
    simp only [e2]
    rw [wI64 (by omega) (by omega)]
theorem getS_at {s : List UInt8} {p k : Int} (h0 : 0 ≤ p) (h1 : 1 ≤ k) (h8 : k ≤ 8) (h : p + k ≤ s.length) : getS s p k = (((valL ((s.drop p.toNat).take k.toNat) : Nat) : Int), true) := by
  unfold getS; rw [if_pos (by omega)]
theorem rNew_eq (s : List UInt8) : octet_New s = some ⟨s, true, false⟩ := rfl
theorem wsum_be2 {n : Nat} (h : n < 65536) : wsum (be n 2) = n := by
  have e : be n 2 = [UInt8.ofNat (n / 256), UInt8.ofNat n] := by simp [be]
  rw [e, wsum, wsum]
  simp only [UInt8.toNat_ofNat']
  omega
theorem norm_zero_mod {n : Nat} (h : n % 65535 = 0) (h0 : n ≠ 0) : norm n = 65535 := norm_eq (by omega) (by omega) (by omega)
def inR (n m : Int) : Bool := decide (0 ≤ n ∧ n ≤ m)
theorem inR_iff {n m : Int} : inR n m = true ↔ 0 ≤ n ∧ n ≤ m := by unfold inR; simp
theorem opt_mod (n : Nat) : (((n : Int).tmod 4) == 0) = decide (n % 4 = 0) := by
  rw [Int.tmod_eq_emod_of_nonneg (by omega), Bool.eq_iff_iff, beq_iff_eq, decide_eq_true_eq]; omega
theorem opt_le (n : Nat) : decide ((n : Int) ≤ 40) = decide (n ≤ 40) := by rw [Bool.eq_iff_iff, decide_eq_true_eq, decide_eq_true_eq]; omega
theorem tdiv4 (n : Nat) : (20 + (n : Int)).tdiv 4 = (((20 + n) / 4 : Nat) : Int) := by rw [Int.tdiv_eq_ediv_of_nonneg (by omega)]; omega
def vK (s : List UInt8) (p k : Nat) : Int := (valL ((s.drop p).take k) : Nat)
theorem vK_rng (s : List UInt8) (p k n : Nat) (h : 256 ^ k ≤ n) : 0 ≤ vK s p k ∧ vK s p k < n := by
  have := val_take_lt (l := s.drop p) (k := k) n h
  unfold vK; omega
theorem vK_one {s : List UInt8} {p : Nat} (h : p < s.length) : vK s p 1 = (s[p].toNat : Int) := by
  unfold vK
  rw [List.drop_eq_getElem_cons h]
  show ((valL [s[p]] : Nat) : Int) = _
  rw [val_cons]; simp
theorem l1 {l : List UInt8} (h : l.length = 1) : ∃ a, l = [a] := by
  match l, h with
  | [a], _ => exact ⟨a, rfl⟩
theorem l2 {l : List UInt8} (h : l.length = 2) : ∃ a b, l = [a, b] := by
  match l, h with
  | [a, b], _ => exact ⟨a, b, rfl⟩
theorem l4 {l : List UInt8} (h : l.length = 4) : ∃ a b c d, l = [a, b, c, d] := by
  match l, h with
  | [a, b, c, d], _ => exact ⟨a, b, c, d, rfl⟩
theorem vK_of {s w : List UInt8} {p k n : Nat} (h : (s.drop p).take k = w) (e : w = be n k) (hn : n < 256 ^ k) : vK s p k = (n : Int) := by
  unfold vK; rw [h, e, val_be_lt hn]
theorem putS_two (n : Int) : putS n 2 = be n.toNat 2 := putS_be (k := 2) (by omega)
end Go.Vm.Code
namespace Go.Vm.Code
open Go Go.Vm Go.Proofs
set_option maxRecDepth 100000
set_option maxHeartbeats 4000000
set_option linter.unusedVariables false
def R05_inF (n : Int) (most : Int) : Option Bool :=
  cond (decide (n ≥ 0))
    (
    some (decide (n ≤ most)))
    (
    some (false))
def rx119 (x : Bool) : SRes := ⟨.bool x, [], []⟩
def r119 (g : Int → Int → Option Bool) : Dec := dV (asI .i64) fun (y0 : Int) => dV (asI .i64) fun (y1 : Int) => dEnd (ofG (g y0 y1) rx119)
theorem r119_c {g : Int → Int → Option Bool} {y0 : Int} {y1 : Int} {x : Bool} (hx : g y0 y1 = some x) : r119 g [.int .i64 y0, .int .i64 y1] [] = some (rx119 x) := (dV_eq (asI_c _)).trans ((dV_eq (asI_c _)).trans (ofG_eq hx))
def s119 (g : Int → Int → Option Bool) : Summ := ⟨[.v, .v], r119 g⟩
theorem r119_eq {g : Int → Int → Option Bool} {y0 : Int} {y1 : Int} {x : Bool} (hx : g y0 y1 = some x) : (s119 g).run [.int .i64 y0, .int .i64 y1] [] = some (rx119 x) := r119_c hx
abbrev sums119 : List (Nat × Summ) := []
theorem leads119 (hS : SumsOK Try.prog (aget (sums119))) (n : Int) (most : Int) (res : Bool) (h : R05_inF n most = some res) :
    Leads Try.prog 119 0 ⟨⟨119, 12, [(0, .int .i64 n), (1, .int .i64 most)], [.code k119_3], [], false, none⟩, [], [], 0⟩ (fun v H _ => Res 0 (rx119 res) v H) := by
  unfold R05_inF at h
  refine ev_ok tab_ok hS true 3000 ?_
  conv => whnf
  refine br.h h ?_ ?_ ?_
  · rfl
  · clear h; intro hb h; conv => whnf
    all_goals (cases h; exact Res.z rfl rfl rfl)
  clear h; intro hb h; conv => whnf
  all_goals (cases h; exact Res.z rfl rfl rfl)
theorem ok119 (hS : SumsOK Try.prog (aget (sums119))) : SumOK Try.prog 119 (s119 (R05_inF)) := by
  refine SumOK.of_leads tab_ok (fun ar os r ha hr => ?_) ⟨Try.f119, rfl, by decide, rfl⟩
  replace hr : r119 (R05_inF) ar (conts os) = some r := hr
  unfold r119 at hr
  generalize hc : conts os = C at hr
  replace hr := dV.elim hr; obtain ⟨v0, l1, y0, rfl, e0, hr⟩ := hr; obtain rfl := asI_eq _ _ _ e0
  replace hr := dV.elim hr; obtain ⟨v1, l2, y1, rfl, e1, hr⟩ := hr; obtain rfl := asI_eq _ _ _ e1
  replace hr := dFin hr; obtain ⟨rfl, rfl, x, h, rfl⟩ := hr
  obtain rfl := kinds_nil hc
  exact ⟨_, rfl, leads119 hS _ _ x h⟩
def R05_in : Int → Int → Option Bool := R05_inF
theorem lift119 : SumOK Try.prog 119 (s119 R05_in) := ok119 (SumsOK.of_tab trivial)
def R05_fourF (R04_Right : api_Addr → Option Bool) (a : api_Addr) : Option Bool :=
  (R04_Right a).bind fun xr =>
  cond (xr)
    (
    some (!a.V6))
    (
    some (false))
def rx120 (x : Bool) : SRes := ⟨.bool x, [], []⟩
def r120 (g : api_Addr → Option Bool) : Dec := dV uvapi_Addr fun (y0 : api_Addr) => dEnd (ofG (g y0) rx120)
theorem r120_c {g : api_Addr → Option Bool} {y0 : api_Addr} {x : Bool} (hx : g y0 = some x) : r120 g [.agg ⟨[.bool y0.V6, .int .u64 y0.Hi, .int .u64 y0.Lo]⟩] [] = some (rx120 x) := (dV_eq (uvapi_Addr_c _)).trans (ofG_eq hx)
def s120 (g : api_Addr → Option Bool) : Summ := ⟨[.v], r120 g⟩
theorem r120_eq {g : api_Addr → Option Bool} {y0 : api_Addr} {x : Bool} (hx : g y0 = some x) : (s120 g).run [.agg ⟨[.bool y0.V6, .int .u64 y0.Hi, .int .u64 y0.Lo]⟩] [] = some (rx120 x) := r120_c hx
abbrev sums120 (R04_Right : api_Addr → Option Bool) : List (Nat × Summ) := [(86, s86 R04_Right)]
theorem leads120 (R04_Right : api_Addr → Option Bool) (hS : SumsOK Try.prog (aget (sums120 R04_Right))) (a : api_Addr) (res : Bool) (h : R05_fourF R04_Right a = some res) :
    Leads Try.prog 120 0 ⟨⟨120, 10, [(0, .agg ⟨[.bool a.V6, .int .u64 a.Hi, .int .u64 a.Lo]⟩)], [.code k120_3], [], false, none⟩, [], [], 0⟩ (fun v H _ => Res 0 (rx120 res) v H) := by
  unfold R05_fourF at h
  refine ev_ok tab_ok hS true 3000 ?_
  conv => whnf
  replace h := obind.elim h; obtain ⟨xr, hy, h⟩ := h
  refine sumK.q rfl rfl (r86_eq hy) rfl rfl rfl ?_
  conv => whnf
  refine br.h h ?_ ?_ ?_
  · rfl
  · clear h; intro hb h; conv => whnf
    all_goals (cases h; exact Res.z rfl rfl rfl)
  clear h; intro hb h; conv => whnf
  all_goals (cases h; exact Res.z rfl rfl rfl)
theorem ok120 (R04_Right : api_Addr → Option Bool) (hS : SumsOK Try.prog (aget (sums120 R04_Right))) : SumOK Try.prog 120 (s120 (R05_fourF R04_Right)) := by
  refine SumOK.of_leads tab_ok (fun ar os r ha hr => ?_) ⟨Try.f120, rfl, by decide, rfl⟩
  replace hr : r120 (R05_fourF R04_Right) ar (conts os) = some r := hr
  unfold r120 at hr
  generalize hc : conts os = C at hr
  replace hr := dV.elim hr; obtain ⟨v0, l1, y0, rfl, e0, hr⟩ := hr; obtain rfl := uvapi_Addr_eq _ _ e0
  replace hr := dFin hr; obtain ⟨rfl, rfl, x, h, rfl⟩ := hr
  obtain rfl := kinds_nil hc
  exact ⟨_, rfl, leads120 R04_Right hS _ x h⟩
def R05_four : api_Addr → Option Bool := R05_fourF R04_Right
theorem lift120 : SumOK Try.prog 120 (s120 R05_four) := ok120 R04_Right (SumsOK.of_tab ⟨lift86, trivial⟩)
def R05_RightF (R05_four : api_Addr → Option Bool) (R05_in : Int → Int → Option Bool) (ha0 : ipfour_Head) : Option Bool :=
  (R05_in ha0.Class 255).bind fun i =>
  cond (i)
    (
    (R05_in ha0.Mark 65535).bind fun i1 =>
    cond (i1)
      (
      (R05_in ha0.TTL 255).bind fun i2 =>
      cond (i2)
        (
        (R05_in ha0.Proto 255).bind fun i3 =>
        cond (i3)
          (
          (R05_four ha0.Src).bind fun f =>
          cond (f)
            (
            (R05_four ha0.Dst).bind fun f1 =>
            cond (f1)
              (
              cond (decide ((ha0.Options.length : Int) ≤ 40))
                (
                some (((ha0.Options.length : Int).tmod 4) == 0))
                (
                some (false)))
              (
              some (false)))
            (
            some (false)))
          (
          some (false)))
        (
        some (false)))
      (
      some (false)))
    (
    some (false))
def rx79 (x : Bool) : SRes := ⟨.bool x, [], []⟩
def r79 (g : ipfour_Head → Option Bool) : Dec := dV uvipfour_Head fun (y0 : ipfour_Head) => dEnd (ofG (g y0) rx79)
theorem r79_c {g : ipfour_Head → Option Bool} {y0 : ipfour_Head} {x : Bool} (hx : g y0 = some x) : r79 g [.agg ⟨[.int .i64 y0.Class, .int .i64 y0.Mark, .bool y0.Whole, .int .i64 y0.TTL, .int .i64 y0.Proto, .bool y0.Src.V6, .int .u64 y0.Src.Hi, .int .u64 y0.Src.Lo, .bool y0.Dst.V6, .int .u64 y0.Dst.Hi, .int .u64 y0.Dst.Lo, .string ⟨⟨y0.Options⟩⟩]⟩] [] = some (rx79 x) := (dV_eq (uvipfour_Head_c _)).trans (ofG_eq hx)
def s79 (g : ipfour_Head → Option Bool) : Summ := ⟨[.v], r79 g⟩
theorem r79_eq {g : ipfour_Head → Option Bool} {y0 : ipfour_Head} {x : Bool} (hx : g y0 = some x) : (s79 g).run [.agg ⟨[.int .i64 y0.Class, .int .i64 y0.Mark, .bool y0.Whole, .int .i64 y0.TTL, .int .i64 y0.Proto, .bool y0.Src.V6, .int .u64 y0.Src.Hi, .int .u64 y0.Src.Lo, .bool y0.Dst.V6, .int .u64 y0.Dst.Hi, .int .u64 y0.Dst.Lo, .string ⟨⟨y0.Options⟩⟩]⟩] [] = some (rx79 x) := r79_c hx
abbrev sums79 (R05_four : api_Addr → Option Bool) (R05_in : Int → Int → Option Bool) : List (Nat × Summ) := [(120, s120 R05_four), (119, s119 R05_in)]
theorem leads79 (R05_four : api_Addr → Option Bool) (R05_in : Int → Int → Option Bool) (hS : SumsOK Try.prog (aget (sums79 R05_four R05_in))) (ha0 : ipfour_Head) (res : Bool) (h : R05_RightF R05_four R05_in ha0 = some res) :
    Leads Try.prog 79 0 ⟨⟨79, 44, [(0, .agg ⟨[.int .i64 ha0.Class, .int .i64 ha0.Mark, .bool ha0.Whole, .int .i64 ha0.TTL, .int .i64 ha0.Proto, .bool ha0.Src.V6, .int .u64 ha0.Src.Hi, .int .u64 ha0.Src.Lo, .bool ha0.Dst.V6, .int .u64 ha0.Dst.Hi, .int .u64 ha0.Dst.Lo, .string ⟨⟨ha0.Options⟩⟩]⟩)], [.code k79_3], [], false, none⟩, [], [], 0⟩ (fun v H _ => Res 0 (rx79 res) v H) := by
  unfold R05_RightF at h
  refine ev_ok tab_ok hS true 3000 ?_
  conv => whnf
  replace h := obind.elim h; obtain ⟨i, hy, h⟩ := h
  refine sumK.q rfl rfl (r119_eq hy) rfl rfl rfl ?_
  conv => whnf
  refine br.h2 h ?_ ?_ ?_
  · rfl
  · clear h; intro hb h; conv => whnf
    all_goals (cases h; exact Res.z rfl rfl rfl)
  clear h; intro hb h; conv => whnf
  replace h := obind.elim h; obtain ⟨i1, hy, h⟩ := h
  refine sumK.q rfl rfl (r119_eq hy) rfl rfl rfl ?_
  conv => whnf
  refine br.h2 h ?_ ?_ ?_
  · rfl
  · clear h; intro hb h; conv => whnf
    all_goals (cases h; exact Res.z rfl rfl rfl)
  clear h; intro hb h; conv => whnf
  replace h := obind.elim h; obtain ⟨i2, hy, h⟩ := h
  refine sumK.q rfl rfl (r119_eq hy) rfl rfl rfl ?_
  conv => whnf
  refine br.h2 h ?_ ?_ ?_
  · rfl
  · clear h; intro hb h; conv => whnf
    all_goals (cases h; exact Res.z rfl rfl rfl)
  clear h; intro hb h; conv => whnf
  replace h := obind.elim h; obtain ⟨i3, hy, h⟩ := h
  refine sumK.q rfl rfl (r119_eq hy) rfl rfl rfl ?_
  conv => whnf
  refine br.h2 h ?_ ?_ ?_
  · rfl
  · clear h; intro hb h; conv => whnf
    all_goals (cases h; exact Res.z rfl rfl rfl)
  clear h; intro hb h; conv => whnf
  replace h := obind.elim h; obtain ⟨f, hy, h⟩ := h
  refine sumK.q rfl rfl (r120_eq hy) rfl rfl rfl ?_
  conv => whnf
  refine br.h2 h ?_ ?_ ?_
  · rfl
  · clear h; intro hb h; conv => whnf
    all_goals (cases h; exact Res.z rfl rfl rfl)
  clear h; intro hb h; conv => whnf
  replace h := obind.elim h; obtain ⟨f1, hy, h⟩ := h
  refine sumK.q rfl rfl (r120_eq hy) rfl rfl rfl ?_
  conv => whnf
  refine br.h2 h ?_ ?_ ?_
  · rfl
  · clear h; intro hb h; conv => whnf
    all_goals (cases h; exact Res.z rfl rfl rfl)
  clear h; intro hb h; conv => whnf
  refine br.h h ?_ ?_ ?_
  · rfl
  · clear h; intro hb h; conv => whnf
    all_goals (cases h; exact Res.z rfl rfl rfl)
  clear h; intro hb h; conv => whnf
  all_goals (cases h; exact Res.z rfl rfl rfl)
theorem ok79 (R05_four : api_Addr → Option Bool) (R05_in : Int → Int → Option Bool) (hS : SumsOK Try.prog (aget (sums79 R05_four R05_in))) : SumOK Try.prog 79 (s79 (R05_RightF R05_four R05_in)) := by
  refine SumOK.of_leads tab_ok (fun ar os r ha hr => ?_) ⟨Try.f79, rfl, by decide, rfl⟩
  replace hr : r79 (R05_RightF R05_four R05_in) ar (conts os) = some r := hr
  unfold r79 at hr
  generalize hc : conts os = C at hr
  replace hr := dV.elim hr; obtain ⟨v0, l1, y0, rfl, e0, hr⟩ := hr; obtain rfl := uvipfour_Head_eq _ _ e0
  replace hr := dFin hr; obtain ⟨rfl, rfl, x, h, rfl⟩ := hr
  obtain rfl := kinds_nil hc
  exact ⟨_, rfl, leads79 R05_four R05_in hS _ x h⟩
def R05_Right : ipfour_Head → Option Bool := R05_RightF R05_four R05_in
theorem lift79 : SumOK Try.prog 79 (s79 R05_Right) := ok79 R05_four R05_in (SumsOK.of_tab ⟨lift120, lift119, trivial⟩)
def R05_PutF (R03_Of : (List UInt8) → Option Int) (R03_Set : (List UInt8) → Int → Int → Int → Option (List UInt8)) (R04_Put : api_Addr → Option (List UInt8)) (R05_Right : ipfour_Head → Option Bool) (R05_num : Int → Int → Option (List UInt8)) (ha0 : ipfour_Head) (payload : List UInt8) : Option ((List UInt8) × Int) :=
  (R05_Right ha0).bind fun xr =>
  cond (!xr)
    (
    some (([], 1)))
    (
    let t := wI .i64 (20 + (ha0.Options.length : Int))
    let t1 := decide ((payload.length : Int) > (wI .i64 (65535 - t)))
    cond (t1)
      (
      some (([], 5)))
      (
      cond (ha0.Whole)
        (
        (R05_num (wI .i64 (64 + (wI .i64 (t.tdiv 4)))) 1).bind fun n =>
        (R05_num ha0.Class 1).bind fun n1 =>
        oreq (decide (n.length + n1.length < 2 ^ 63)) <|
        (R05_num (wI .i64 (t + (payload.length : Int))) 2).bind fun n2 =>
        oreq (decide ((n ++ n1).length + n2.length < 2 ^ 63)) <|
        (R05_num ha0.Mark 2).bind fun n3 =>
        oreq (decide (((n ++ n1) ++ n2).length + n3.length < 2 ^ 63)) <|
        (R05_num 64 1).bind fun n4 =>
        oreq (decide ((((n ++ n1) ++ n2) ++ n3).length + n4.length < 2 ^ 63)) <|
        (R05_num 0 1).bind fun n5 =>
        oreq (decide (((((n ++ n1) ++ n2) ++ n3) ++ n4).length + n5.length < 2 ^ 63)) <|
        (R05_num ha0.TTL 1).bind fun n6 =>
        oreq (decide ((((((n ++ n1) ++ n2) ++ n3) ++ n4) ++ n5).length + n6.length < 2 ^ 63)) <|
        let t2 := (((((n ++ n1) ++ n2) ++ n3) ++ n4) ++ n5) ++ n6
        (R05_num ha0.Proto 1).bind fun n7 =>
        oreq (decide (t2.length + n7.length < 2 ^ 63)) <|
        (R05_num 0 2).bind fun n8 =>
        oreq (decide ((t2 ++ n7).length + n8.length < 2 ^ 63)) <|
        (R04_Put ha0.Src).bind fun p =>
        oreq (decide (((t2 ++ n7) ++ n8).length + p.length < 2 ^ 63)) <|
        (R04_Put ha0.Dst).bind fun p1 =>
        oreq (decide ((((t2 ++ n7) ++ n8) ++ p).length + p1.length < 2 ^ 63)) <|
        oreq (decide (((((t2 ++ n7) ++ n8) ++ p) ++ p1).length + ha0.Options.length < 2 ^ 63)) <|
        let t3 := ((((t2 ++ n7) ++ n8) ++ p) ++ p1) ++ ha0.Options
        (R03_Of t3).bind fun xo =>
        (R03_Set t3 10 2 (wI .u64 xo)).bind fun s =>
        oreq (decide (s.length + payload.length < 2 ^ 63)) <|
        some ((s ++ payload, 0)))
        (
        (R05_num (wI .i64 (64 + (wI .i64 (t.tdiv 4)))) 1).bind fun n9 =>
        (R05_num ha0.Class 1).bind fun n10 =>
        oreq (decide (n9.length + n10.length < 2 ^ 63)) <|
        (R05_num (wI .i64 (t + (payload.length : Int))) 2).bind fun n11 =>
        oreq (decide ((n9 ++ n10).length + n11.length < 2 ^ 63)) <|
        (R05_num ha0.Mark 2).bind fun n12 =>
        oreq (decide (((n9 ++ n10) ++ n11).length + n12.length < 2 ^ 63)) <|
        (R05_num 0 1).bind fun n13 =>
        oreq (decide ((((n9 ++ n10) ++ n11) ++ n12).length + n13.length < 2 ^ 63)) <|
        (R05_num 0 1).bind fun n14 =>
        oreq (decide (((((n9 ++ n10) ++ n11) ++ n12) ++ n13).length + n14.length < 2 ^ 63)) <|
        let t4 := ((((n9 ++ n10) ++ n11) ++ n12) ++ n13) ++ n14
        (R05_num ha0.TTL 1).bind fun n15 =>
        oreq (decide (t4.length + n15.length < 2 ^ 63)) <|
        (R05_num ha0.Proto 1).bind fun n16 =>
        oreq (decide ((t4 ++ n15).length + n16.length < 2 ^ 63)) <|
        (R05_num 0 2).bind fun n17 =>
        oreq (decide (((t4 ++ n15) ++ n16).length + n17.length < 2 ^ 63)) <|
        (R04_Put ha0.Src).bind fun p2 =>
        oreq (decide ((((t4 ++ n15) ++ n16) ++ n17).length + p2.length < 2 ^ 63)) <|
        (R04_Put ha0.Dst).bind fun p3 =>
        oreq (decide (((((t4 ++ n15) ++ n16) ++ n17) ++ p2).length + p3.length < 2 ^ 63)) <|
        let t5 := ((((t4 ++ n15) ++ n16) ++ n17) ++ p2) ++ p3
        oreq (decide (t5.length + ha0.Options.length < 2 ^ 63)) <|
        (R03_Of (t5 ++ ha0.Options)).bind fun xo1 =>
        (R03_Set (t5 ++ ha0.Options) 10 2 (wI .u64 xo1)).bind fun s1 =>
        oreq (decide (s1.length + payload.length < 2 ^ 63)) <|
        some ((s1 ++ payload, 0)))))
def rx23 (x : (List UInt8) × Int) : SRes := ⟨.tuple ⟨[.string ⟨⟨x.1⟩⟩, .int .i64 x.2]⟩, [], []⟩
def r23 (g : ipfour_Head → (List UInt8) → Option ((List UInt8) × Int)) : Dec := dV uvipfour_Head fun (y0 : ipfour_Head) => dV asS fun (y1 : List UInt8) => dEnd (ofG (g y0 y1) rx23)
theorem r23_c {g : ipfour_Head → (List UInt8) → Option ((List UInt8) × Int)} {y0 : ipfour_Head} {y1 : List UInt8} {x : (List UInt8) × Int} (hx : g y0 y1 = some x) : r23 g [.agg ⟨[.int .i64 y0.Class, .int .i64 y0.Mark, .bool y0.Whole, .int .i64 y0.TTL, .int .i64 y0.Proto, .bool y0.Src.V6, .int .u64 y0.Src.Hi, .int .u64 y0.Src.Lo, .bool y0.Dst.V6, .int .u64 y0.Dst.Hi, .int .u64 y0.Dst.Lo, .string ⟨⟨y0.Options⟩⟩]⟩, .string ⟨⟨y1⟩⟩] [] = some (rx23 x) := (dV_eq (uvipfour_Head_c _)).trans ((dV_eq (asS_c)).trans (ofG_eq hx))
def s23 (g : ipfour_Head → (List UInt8) → Option ((List UInt8) × Int)) : Summ := ⟨[.v, .v], r23 g⟩
theorem r23_eq {g : ipfour_Head → (List UInt8) → Option ((List UInt8) × Int)} {y0 : ipfour_Head} {y1 : List UInt8} {x : (List UInt8) × Int} (hx : g y0 y1 = some x) : (s23 g).run [.agg ⟨[.int .i64 y0.Class, .int .i64 y0.Mark, .bool y0.Whole, .int .i64 y0.TTL, .int .i64 y0.Proto, .bool y0.Src.V6, .int .u64 y0.Src.Hi, .int .u64 y0.Src.Lo, .bool y0.Dst.V6, .int .u64 y0.Dst.Hi, .int .u64 y0.Dst.Lo, .string ⟨⟨y0.Options⟩⟩]⟩, .string ⟨⟨y1⟩⟩] [] = some (rx23 x) := r23_c hx
abbrev sums23 (R03_Of : (List UInt8) → Option Int) (R03_Set : (List UInt8) → Int → Int → Int → Option (List UInt8)) (R04_Put : api_Addr → Option (List UInt8)) (R05_Right : ipfour_Head → Option Bool) (R05_num : Int → Int → Option (List UInt8)) : List (Nat × Summ) := [(68, s68 R03_Of), (69, s69 R03_Set), (81, s81 R04_Put), (79, s79 R05_Right), (80, s80 R05_num)]
theorem leads23 (R03_Of : (List UInt8) → Option Int) (R03_Set : (List UInt8) → Int → Int → Int → Option (List UInt8)) (R04_Put : api_Addr → Option (List UInt8)) (R05_Right : ipfour_Head → Option Bool) (R05_num : Int → Int → Option (List UInt8)) (hS : SumsOK Try.prog (aget (sums23 R03_Of R03_Set R04_Put R05_Right R05_num))) (ha0 : ipfour_Head) (payload : List UInt8) (res : (List UInt8) × Int) (h : R05_PutF R03_Of R03_Set R04_Put R05_Right R05_num ha0 payload = some res) :
    Leads Try.prog 23 0 ⟨⟨23, 74, [(0, .agg ⟨[.int .i64 ha0.Class, .int .i64 ha0.Mark, .bool ha0.Whole, .int .i64 ha0.TTL, .int .i64 ha0.Proto, .bool ha0.Src.V6, .int .u64 ha0.Src.Hi, .int .u64 ha0.Src.Lo, .bool ha0.Dst.V6, .int .u64 ha0.Dst.Hi, .int .u64 ha0.Dst.Lo, .string ⟨⟨ha0.Options⟩⟩]⟩), (1, .string ⟨⟨payload⟩⟩)], [.code k23_26], [], false, none⟩, [], [], 0⟩ (fun v H _ => Res 0 (rx23 res) v H) := by
  unfold R05_PutF at h
  refine ev_ok tab_ok hS true 3000 ?_
  conv => whnf
  replace h := obind.elim h; obtain ⟨xr, hy, h⟩ := h
  refine sumK.q rfl rfl (r79_eq hy) rfl rfl rfl ?_
  conv => whnf
  refine br.h h ?_ ?_ ?_
  · rfl
  · clear h; intro hb h; conv => whnf
    all_goals (cases h; exact Res.z rfl rfl rfl)
  clear h; intro hb h; conv => whnf
  let t : Int := wI .i64 (20 + (ha0.Options.length : Int))
  let t1 : Bool := decide ((payload.length : Int) > (wI .i64 (65535 - t)))
  refine br.h h ?_ ?_ ?_
  · rfl
  · clear h; intro hb h; conv => whnf
    all_goals (cases h; exact Res.z rfl rfl rfl)
  clear h; intro hb h; conv => whnf
  refine br.h h ?_ ?_ ?_
  · rfl
  · clear h; intro hb h; conv => whnf
    replace h := obind.elim h; obtain ⟨n, hy, h⟩ := h
    refine sumK.q rfl rfl (r80_eq hy) rfl rfl rfl ?_
    conv => whnf
    replace h := obind.elim h; obtain ⟨n1, hy, h⟩ := h
    refine sumK.q rfl rfl (r80_eq hy) rfl rfl rfl ?_
    conv => whnf
    replace h := oreq.elim h; obtain ⟨hb, h⟩ := h
    first | (refine req.intro hb ?_; conv => whnf) | skip
    replace h := obind.elim h; obtain ⟨n2, hy, h⟩ := h
    refine sumK.q rfl rfl (r80_eq hy) rfl rfl rfl ?_
    conv => whnf
    replace h := oreq.elim h; obtain ⟨hb, h⟩ := h
    first | (refine req.intro hb ?_; conv => whnf) | skip
    replace h := obind.elim h; obtain ⟨n3, hy, h⟩ := h
    refine sumK.q rfl rfl (r80_eq hy) rfl rfl rfl ?_
    conv => whnf
    replace h := oreq.elim h; obtain ⟨hb, h⟩ := h
    first | (refine req.intro hb ?_; conv => whnf) | skip
    replace h := obind.elim h; obtain ⟨n4, hy, h⟩ := h
    refine sumK.q rfl rfl (r80_eq hy) rfl rfl rfl ?_
    conv => whnf
    replace h := oreq.elim h; obtain ⟨hb, h⟩ := h
    first | (refine req.intro hb ?_; conv => whnf) | skip
    replace h := obind.elim h; obtain ⟨n5, hy, h⟩ := h
    refine sumK.q rfl rfl (r80_eq hy) rfl rfl rfl ?_
    conv => whnf
    replace h := oreq.elim h; obtain ⟨hb, h⟩ := h
    first | (refine req.intro hb ?_; conv => whnf) | skip
    replace h := obind.elim h; obtain ⟨n6, hy, h⟩ := h
    refine sumK.q rfl rfl (r80_eq hy) rfl rfl rfl ?_
    conv => whnf
    replace h := oreq.elim h; obtain ⟨hb, h⟩ := h
    first | (refine req.intro hb ?_; conv => whnf) | skip
    let t2 : List UInt8 := (((((n ++ n1) ++ n2) ++ n3) ++ n4) ++ n5) ++ n6
    replace h := obind.elim h; obtain ⟨n7, hy, h⟩ := h
    refine sumK.q rfl rfl (r80_eq hy) rfl rfl rfl ?_
    conv => whnf
    replace h := oreq.elim h; obtain ⟨hb, h⟩ := h
    first | (refine req.intro hb ?_; conv => whnf) | skip
    replace h := obind.elim h; obtain ⟨n8, hy, h⟩ := h
    refine sumK.q rfl rfl (r80_eq hy) rfl rfl rfl ?_
    conv => whnf
    replace h := oreq.elim h; obtain ⟨hb, h⟩ := h
    first | (refine req.intro hb ?_; conv => whnf) | skip
    replace h := obind.elim h; obtain ⟨p, hy, h⟩ := h
    refine sumK.q rfl rfl (r81_eq hy) rfl rfl rfl ?_
    conv => whnf
    replace h := oreq.elim h; obtain ⟨hb, h⟩ := h
    first | (refine req.intro hb ?_; conv => whnf) | skip
    replace h := obind.elim h; obtain ⟨p1, hy, h⟩ := h
    refine sumK.q rfl rfl (r81_eq hy) rfl rfl rfl ?_
    conv => whnf
    replace h := oreq.elim h; obtain ⟨hb, h⟩ := h
    first | (refine req.intro hb ?_; conv => whnf) | skip
    replace h := oreq.elim h; obtain ⟨hb, h⟩ := h
    first | (refine req.intro hb ?_; conv => whnf) | skip
    let t3 : List UInt8 := ((((t2 ++ n7) ++ n8) ++ p) ++ p1) ++ ha0.Options
    replace h := obind.elim h; obtain ⟨xo, hy, h⟩ := h
    refine sumK.q rfl rfl (r68_eq hy) rfl rfl rfl ?_
    conv => whnf
    replace h := obind.elim h; obtain ⟨s, hy, h⟩ := h
    refine sumK.q rfl rfl (r69_eq hy) rfl rfl rfl ?_
    conv => whnf
    replace h := oreq.elim h; obtain ⟨hb, h⟩ := h
    first | (refine req.intro hb ?_; conv => whnf) | skip
    all_goals (cases h; exact Res.z rfl rfl rfl)
  clear h; intro hb h; conv => whnf
  replace h := obind.elim h; obtain ⟨n9, hy, h⟩ := h
  refine sumK.q rfl rfl (r80_eq hy) rfl rfl rfl ?_
  conv => whnf
  replace h := obind.elim h; obtain ⟨n10, hy, h⟩ := h
  refine sumK.q rfl rfl (r80_eq hy) rfl rfl rfl ?_
  conv => whnf
  replace h := oreq.elim h; obtain ⟨hb, h⟩ := h
  first | (refine req.intro hb ?_; conv => whnf) | skip
  replace h := obind.elim h; obtain ⟨n11, hy, h⟩ := h
  refine sumK.q rfl rfl (r80_eq hy) rfl rfl rfl ?_
  conv => whnf
  replace h := oreq.elim h; obtain ⟨hb, h⟩ := h
  first | (refine req.intro hb ?_; conv => whnf) | skip
  replace h := obind.elim h; obtain ⟨n12, hy, h⟩ := h
  refine sumK.q rfl rfl (r80_eq hy) rfl rfl rfl ?_
  conv => whnf
  replace h := oreq.elim h; obtain ⟨hb, h⟩ := h
  first | (refine req.intro hb ?_; conv => whnf) | skip
  replace h := obind.elim h; obtain ⟨n13, hy, h⟩ := h
  refine sumK.q rfl rfl (r80_eq hy) rfl rfl rfl ?_
  conv => whnf
  replace h := oreq.elim h; obtain ⟨hb, h⟩ := h
  first | (refine req.intro hb ?_; conv => whnf) | skip
  replace h := obind.elim h; obtain ⟨n14, hy, h⟩ := h
  refine sumK.q rfl rfl (r80_eq hy) rfl rfl rfl ?_
  conv => whnf
  replace h := oreq.elim h; obtain ⟨hb, h⟩ := h
  first | (refine req.intro hb ?_; conv => whnf) | skip
  let t4 : List UInt8 := ((((n9 ++ n10) ++ n11) ++ n12) ++ n13) ++ n14
  replace h := obind.elim h; obtain ⟨n15, hy, h⟩ := h
  refine sumK.q rfl rfl (r80_eq hy) rfl rfl rfl ?_
  conv => whnf
  replace h := oreq.elim h; obtain ⟨hb, h⟩ := h
  first | (refine req.intro hb ?_; conv => whnf) | skip
  replace h := obind.elim h; obtain ⟨n16, hy, h⟩ := h
  refine sumK.q rfl rfl (r80_eq hy) rfl rfl rfl ?_
  conv => whnf
  replace h := oreq.elim h; obtain ⟨hb, h⟩ := h
  first | (refine req.intro hb ?_; conv => whnf) | skip
  replace h := obind.elim h; obtain ⟨n17, hy, h⟩ := h
  refine sumK.q rfl rfl (r80_eq hy) rfl rfl rfl ?_
  conv => whnf
  replace h := oreq.elim h; obtain ⟨hb, h⟩ := h
  first | (refine req.intro hb ?_; conv => whnf) | skip
  replace h := obind.elim h; obtain ⟨p2, hy, h⟩ := h
  refine sumK.q rfl rfl (r81_eq hy) rfl rfl rfl ?_
  conv => whnf
  replace h := oreq.elim h; obtain ⟨hb, h⟩ := h
  first | (refine req.intro hb ?_; conv => whnf) | skip
  replace h := obind.elim h; obtain ⟨p3, hy, h⟩ := h
  refine sumK.q rfl rfl (r81_eq hy) rfl rfl rfl ?_
  conv => whnf
  replace h := oreq.elim h; obtain ⟨hb, h⟩ := h
  first | (refine req.intro hb ?_; conv => whnf) | skip
  let t5 : List UInt8 := ((((t4 ++ n15) ++ n16) ++ n17) ++ p2) ++ p3
  replace h := oreq.elim h; obtain ⟨hb, h⟩ := h
  first | (refine req.intro hb ?_; conv => whnf) | skip
  replace h := obind.elim h; obtain ⟨xo1, hy, h⟩ := h
  refine sumK.q rfl rfl (r68_eq hy) rfl rfl rfl ?_
  conv => whnf
  replace h := obind.elim h; obtain ⟨s1, hy, h⟩ := h
  refine sumK.q rfl rfl (r69_eq hy) rfl rfl rfl ?_
  conv => whnf
  replace h := oreq.elim h; obtain ⟨hb, h⟩ := h
  first | (refine req.intro hb ?_; conv => whnf) | skip
  all_goals (cases h; exact Res.z rfl rfl rfl)
theorem ok23 (R03_Of : (List UInt8) → Option Int) (R03_Set : (List UInt8) → Int → Int → Int → Option (List UInt8)) (R04_Put : api_Addr → Option (List UInt8)) (R05_Right : ipfour_Head → Option Bool) (R05_num : Int → Int → Option (List UInt8)) (hS : SumsOK Try.prog (aget (sums23 R03_Of R03_Set R04_Put R05_Right R05_num))) : SumOK Try.prog 23 (s23 (R05_PutF R03_Of R03_Set R04_Put R05_Right R05_num)) := by
  refine SumOK.of_leads tab_ok (fun ar os r ha hr => ?_) ⟨Try.f23, rfl, by decide, rfl⟩
  replace hr : r23 (R05_PutF R03_Of R03_Set R04_Put R05_Right R05_num) ar (conts os) = some r := hr
  unfold r23 at hr
  generalize hc : conts os = C at hr
  replace hr := dV.elim hr; obtain ⟨v0, l1, y0, rfl, e0, hr⟩ := hr; obtain rfl := uvipfour_Head_eq _ _ e0
  replace hr := dV.elim hr; obtain ⟨v1, l2, y1, rfl, e1, hr⟩ := hr; obtain rfl := asS_eq _ _ e1
  replace hr := dFin hr; obtain ⟨rfl, rfl, x, h, rfl⟩ := hr
  obtain rfl := kinds_nil hc
  exact ⟨_, rfl, leads23 R03_Of R03_Set R04_Put R05_Right R05_num hS _ _ x h⟩
def R05_Put : ipfour_Head → (List UInt8) → Option ((List UInt8) × Int) := R05_PutF R03_Of R03_Set R04_Put R05_Right R05_num
theorem lift23 : SumOK Try.prog 23 (s23 R05_Put) := ok23 R03_Of R03_Set R04_Put R05_Right R05_num (SumsOK.of_tab ⟨lift68, lift69, lift81, lift79, lift80, trivial⟩)
end Go.Vm.Code
namespace Go.Vm.Code
open Go Go.Vm
theorem in5_eq (n m : Int) : R05_in n m = some (inR n m) := by
  unfold R05_in R05_inF inR
  by_cases h : 0 ≤ n
  · rw [cond_p (by omega)]; simp [h]
  · rw [cond_n (by omega)]; simp [h]
def four (a : api_Addr) : Bool := !a.V6 && aok a
theorem four5_eq (a : api_Addr) : R05_four a = some (four a) := by
  unfold R05_four R05_fourF four
  rw [a4Right_eq]; cases aok a <;> cases a.V6 <;> rfl
def H5 (h : ipfour_Head) : Bool := inR h.Class 255 && inR h.Mark 65535 && inR h.TTL 255 && inR h.Proto 255 && four h.Src && four h.Dst && decide (h.Options.length % 4 = 0) && decide (h.Options.length ≤ 40)
theorem right5_eq (h : ipfour_Head) : R05_Right h = some (H5 h) := by
  unfold R05_Right R05_RightF H5
  simp only [in5_eq, four5_eq, Option.bind_some, opt_mod, opt_le]
  cases inR h.Class 255 <;> cases inR h.Mark 65535 <;> cases inR h.TTL 255 <;> cases inR h.Proto 255 <;> cases four h.Src <;> cases four h.Dst <;> cases decide (h.Options.length % 4 = 0) <;> cases decide (h.Options.length ≤ 40) <;> rfl
def hd5 (h : ipfour_Head) (n : Int) : List UInt8 :=
  putS (64 + ((20 + h.Options.length) / 4 : Nat)) 1 ++ putS h.Class 1 ++ putS n 2 ++ putS h.Mark 2 ++ putS (cond h.Whole 64 0) 1 ++ putS 0 1 ++ putS h.TTL 1 ++ putS h.Proto 1 ++ putS 0 2 ++ abytes h.Src ++ abytes h.Dst ++ h.Options
theorem hd5_len (h : ipfour_Head) (n : Int) : (hd5 h n).length ≤ 104 + h.Options.length := by
  have a1 := putS_len (64 + ((20 + h.Options.length) / 4 : Nat)) 1
  have a2 := putS_len h.Class 1
  have a3 := putS_len n 2
  have a4 := putS_len h.Mark 2
  have a5 := putS_len (cond h.Whole 64 0) 1
  have a6 := putS_len 0 1
  have a7 := putS_len h.TTL 1
  have a8 := putS_len h.Proto 1
  have a9 := putS_len 0 2
  have b1 : (abytes h.Src).length ≤ 16 := by rw [abytes_len]; cases h.Src.V6 <;> decide
  have b2 : (abytes h.Dst).length ≤ 16 := by rw [abytes_len]; cases h.Dst.V6 <;> decide
  unfold hd5
  simp only [List.length_append]; omega
def put5 (h : ipfour_Head) (l : List UInt8) : List UInt8 × Int :=
  if H5 h = false then ([], 1) else if 65535 - (20 + (h.Options.length : Int)) < l.length then ([], 5) else
    (setS (hd5 h (20 + h.Options.length + l.length)) 10 2 (65535 - (norm (wsum (hd5 h (20 + h.Options.length + l.length))) : Nat)) ++ l, 0)
theorem setS_len (s : List UInt8) (p k n : Int) : (setS s p k n).length ≤ s.length + 8 := by
  unfold setS
  split
  · simp; omega
  · omega
theorem put5_rfin {t l : List UInt8} (ht : t.length ≤ 2 ^ 20) (hl : l.length < 2 ^ 30) : ((R03_Of t).bind fun xo => (R03_Set t 10 2 (wI .u64 xo)).bind fun s => oreq (decide (s.length + l.length < 2 ^ 63)) (some (s ++ l, (0 : Int)))) = some (setS t 10 2 (65535 - (norm (wsum t) : Nat)) ++ l, 0) := by
  have := norm_le (wsum t)
  have hs := setS_len t 10 2 (65535 - (norm (wsum t) : Nat))
  rw [R03_Of_eq (by omega), Option.bind_some, wU64 (by omega) (by omega), R03_Set_eq (by omega) (by omega) (by omega), Option.bind_some, oreq_p (by omega)]
theorem H5_inv {h : ipfour_Head} (hh : H5 h = true) : (0 ≤ h.Class ∧ h.Class ≤ 255) ∧ (0 ≤ h.Mark ∧ h.Mark ≤ 65535) ∧ (0 ≤ h.TTL ∧ h.TTL ≤ 255) ∧ (0 ≤ h.Proto ∧ h.Proto ≤ 255) ∧ (h.Src.V6 = false ∧ aok h.Src = true) ∧ (h.Dst.V6 = false ∧ aok h.Dst = true) ∧ h.Options.length % 4 = 0 ∧ h.Options.length ≤ 40 := by
  unfold H5 four at hh
  simp only [Bool.and_eq_true, inR_iff, Bool.not_eq_true', decide_eq_true_eq] at hh
  obtain ⟨⟨⟨⟨⟨⟨⟨a, b⟩, c⟩, d⟩, e⟩, f⟩, g⟩, i⟩ := hh
  exact ⟨a, b, c, d, e, f, g, i⟩
theorem rp5_eq {h : ipfour_Head} {l : List UInt8} (h1 : A4 h.Src) (h2 : A4 h.Dst) (hl : l.length < 2 ^ 20) (ho : h.Options.length < 2 ^ 20) : R05_Put h l = some (put5 h l) := by
  unfold R05_Put R05_PutF put5
  rw [right5_eq, Option.bind_some]
  cases hh : H5 h
  · rfl
  obtain ⟨q1, q2, q3, q4, q5, q6, q7, q8⟩ := H5_inv hh
  simp only [Bool.not_true, cond_false]
  rw [if_neg (by decide), wI64 (n := 20 + (h.Options.length : Int)) (by omega) (by omega), wI64 (n := 65535 - (20 + (h.Options.length : Int))) (by omega) (by omega)]
  by_cases h5 : (l.length : Int) > 65535 - (20 + (h.Options.length : Int))
  · rw [cond_p h5, if_pos (by omega)]
  rw [cond_n h5, if_neg (by omega)]
  have b1 : (abytes h.Src).length ≤ 16 := by rw [abytes_len]; cases h.Src.V6 <;> decide
  have b2 : (abytes h.Dst).length ≤ 16 := by rw [abytes_len]; cases h.Dst.V6 <;> decide
  rw [wI64 (n := 20 + (h.Options.length : Int) + l.length) (by omega) (by omega), tdiv4, wI64 (n := (((20 + h.Options.length) / 4 : Nat) : Int)) (by omega) (by omega), wI64 (n := 64 + (((20 + h.Options.length) / 4 : Nat) : Int)) (by omega) (by omega), a4Put_eq h1 q5.2, a4Put_eq h2 q6.2]
  simp only [num5W_eq, Option.bind_some]
  rw [wU64 (n := 64 + (((20 + h.Options.length) / 4 : Nat) : Int)) (by omega) (by omega), wU64 q1.1 (by omega), wU64 (n := 20 + (h.Options.length : Int) + l.length) (by omega) (by omega), wU64 q2.1 (by omega), wU64 q3.1 (by omega), wU64 q4.1 (by omega), show wI .u64 0 = 0 from rfl, show wI .u64 64 = 64 from rfl]
  have a1 := putS_len (64 + ((20 + h.Options.length) / 4 : Nat)) 1
  have a2 := putS_len h.Class 1
  have a3 := putS_len (20 + (h.Options.length : Int) + l.length) 2
  have a4 := putS_len h.Mark 2
  have a5 := putS_len 64 1
  have a6 := putS_len 0 1
  have a7 := putS_len h.TTL 1
  have a8 := putS_len h.Proto 1
  have a9 := putS_len 0 2
  have hlen := hd5_len h (20 + h.Options.length + l.length)
  cases hw : h.Whole
  · rw [cond_false]
    have e : putS (64 + ((20 + h.Options.length) / 4 : Nat)) 1 ++ putS h.Class 1 ++ putS (20 + (h.Options.length : Int) + l.length) 2 ++ putS h.Mark 2 ++ putS 0 1 ++ putS 0 1 ++ putS h.TTL 1 ++ putS h.Proto 1 ++ putS 0 2 ++ abytes h.Src ++ abytes h.Dst ++ h.Options = hd5 h (20 + h.Options.length + l.length) := by unfold hd5; rw [hw]; rfl
    iterate 11 rw [oreq_p (by first | omega | (simp only [List.length_append]; omega))]
    rw [e]
    exact put5_rfin (by omega) (by omega)
  · rw [cond_true]
    have e : putS (64 + ((20 + h.Options.length) / 4 : Nat)) 1 ++ putS h.Class 1 ++ putS (20 + (h.Options.length : Int) + l.length) 2 ++ putS h.Mark 2 ++ putS 64 1 ++ putS 0 1 ++ putS h.TTL 1 ++ putS h.Proto 1 ++ putS 0 2 ++ abytes h.Src ++ abytes h.Dst ++ h.Options = hd5 h (20 + h.Options.length + l.length) := by unfold hd5; rw [hw]; rfl
    iterate 11 rw [oreq_p (by first | omega | (simp only [List.length_append]; omega))]
    rw [e]
    exact put5_rfin (by omega) (by omega)
theorem parts5 {a b n m f g t p c x y r : List UInt8} (ha : a.length = 1) (hb : b.length = 1) (hn : n.length = 2) (hm : m.length = 2) (hf : f.length = 1) (hg : g.length = 1) (ht : t.length = 1) (hp : p.length = 1) (hc : c.length = 2) (hx : x.length = 4) (hy : y.length = 4) :
    let s := a ++ b ++ n ++ m ++ f ++ g ++ t ++ p ++ c ++ x ++ y ++ r
    (s.drop 0).take 1 = a ∧ (s.drop 1).take 1 = b ∧ (s.drop 2).take 2 = n ∧ (s.drop 4).take 2 = m ∧ (s.drop 6).take 2 = f ++ g ∧ (s.drop 8).take 1 = t ∧ (s.drop 9).take 1 = p ∧ (s.drop 12).take 4 = x ∧ (s.drop 16).take 4 = y ∧ s.drop 20 = r ∧ s.take 10 = a ++ b ++ n ++ m ++ f ++ g ++ t ++ p ∧ s.drop 12 = x ++ y ++ r := by
  obtain ⟨a1, rfl⟩ := l1 ha
  obtain ⟨b1, rfl⟩ := l1 hb
  obtain ⟨n1, n2, rfl⟩ := l2 hn
  obtain ⟨m1, m2, rfl⟩ := l2 hm
  obtain ⟨f1, rfl⟩ := l1 hf
  obtain ⟨g1, rfl⟩ := l1 hg
  obtain ⟨t1, rfl⟩ := l1 ht
  obtain ⟨p1, rfl⟩ := l1 hp
  obtain ⟨c1, c2, rfl⟩ := l2 hc
  obtain ⟨x1, x2, x3, x4, rfl⟩ := l4 hx
  obtain ⟨y1, y2, y3, y4, rfl⟩ := l4 hy
  exact ⟨rfl, rfl, rfl, rfl, rfl, rfl, rfl, rfl, rfl, rfl, rfl, rfl⟩
def hc5 (h : ipfour_Head) (n c : Nat) : List UInt8 :=
  be (64 + (20 + h.Options.length) / 4) 1 ++ be h.Class.toNat 1 ++ be n 2 ++ be h.Mark.toNat 2 ++ be (cond h.Whole 64 0) 1 ++ be 0 1 ++ be h.TTL.toNat 1 ++ be h.Proto.toNat 1 ++ be c 2 ++ be h.Src.Lo.toNat 4 ++ be h.Dst.Lo.toNat 4 ++ h.Options
theorem hc5_len (h : ipfour_Head) (n c : Nat) : (hc5 h n c).length = 20 + h.Options.length := by simp [hc5]; omega
theorem pu1 (n : Int) : putS n 1 = be n.toNat 1 := putS_be (k := 1) (by omega)
theorem pu2 (n : Int) : putS n 2 = be n.toNat 2 := putS_be (k := 2) (by omega)
theorem hd5_hc {h : ipfour_Head} {n : Nat} (h1 : h.Src.V6 = false) (h2 : h.Dst.V6 = false) : hd5 h (n : Int) = hc5 h n 0 := by
  have e : (64 + ((20 + h.Options.length) / 4 : Nat) : Int).toNat = 64 + (20 + h.Options.length) / 4 := by omega
  have ew : (cond h.Whole 64 0 : Int).toNat = cond h.Whole 64 0 := by cases h.Whole <;> rfl
  unfold hd5 hc5 abytes
  rw [h1, h2]
  simp only [pu1, pu2, cond_false, Int.toNat_natCast, e, ew]
  rfl
theorem hc5_parts (h : ipfour_Head) (n c : Nat) (r : List UInt8) : let s := hc5 h n c ++ r
    (s.drop 0).take 1 = be (64 + (20 + h.Options.length) / 4) 1 ∧ (s.drop 1).take 1 = be h.Class.toNat 1 ∧ (s.drop 2).take 2 = be n 2 ∧ (s.drop 4).take 2 = be h.Mark.toNat 2 ∧ (s.drop 6).take 2 = be (cond h.Whole 64 0) 1 ++ be 0 1 ∧ (s.drop 8).take 1 = be h.TTL.toNat 1 ∧ (s.drop 9).take 1 = be h.Proto.toNat 1 ∧ (s.drop 12).take 4 = be h.Src.Lo.toNat 4 ∧ (s.drop 16).take 4 = be h.Dst.Lo.toNat 4 ∧ s.drop 20 = h.Options ++ r ∧ s.take 10 = be (64 + (20 + h.Options.length) / 4) 1 ++ be h.Class.toNat 1 ++ be n 2 ++ be h.Mark.toNat 2 ++ be (cond h.Whole 64 0) 1 ++ be 0 1 ++ be h.TTL.toNat 1 ++ be h.Proto.toNat 1 ∧ s.drop 12 = be h.Src.Lo.toNat 4 ++ be h.Dst.Lo.toNat 4 ++ (h.Options ++ r) := by
  have e : hc5 h n c ++ r = be (64 + (20 + h.Options.length) / 4) 1 ++ be h.Class.toNat 1 ++ be n 2 ++ be h.Mark.toNat 2 ++ be (cond h.Whole 64 0) 1 ++ be 0 1 ++ be h.TTL.toNat 1 ++ be h.Proto.toNat 1 ++ be c 2 ++ be h.Src.Lo.toNat 4 ++ be h.Dst.Lo.toNat 4 ++ (h.Options ++ r) := by simp only [hc5, List.append_assoc]
  rw [e]
  exact parts5 (be_len _ _) (be_len _ _) (be_len _ _) (be_len _ _) (be_len _ _) (be_len _ _) (be_len _ _) (be_len _ _) (be_len _ _) (be_len _ _) (be_len _ _)
theorem set_hc {h : ipfour_Head} {n : Nat} {c : Int} : setS (hc5 h n 0) 10 2 c = hc5 h n c.toNat := by
  obtain ⟨_, _, _, _, _, _, _, _, _, _, q11, q12⟩ := hc5_parts h n 0 []
  simp only [List.append_nil] at q11 q12
  unfold setS
  rw [if_pos (by rw [hc5_len]; omega), show (10 : Int).toNat = 10 from rfl, show ((10 : Int) + 2).toNat = 12 from rfl, q11, q12]
  unfold hc5
  simp only [List.append_assoc]; rfl
theorem hc5_sum {h : ipfour_Head} {n c : Nat} (hc : c < 65536) : wsum (hc5 h n c) = wsum (hc5 h n 0) + c := by
  have e : ∀ x, hc5 h n x = (be (64 + (20 + h.Options.length) / 4) 1 ++ be h.Class.toNat 1 ++ be n 2 ++ be h.Mark.toNat 2 ++ be (cond h.Whole 64 0) 1 ++ be 0 1 ++ be h.TTL.toNat 1 ++ be h.Proto.toNat 1) ++ (be x 2 ++ (be h.Src.Lo.toNat 4 ++ be h.Dst.Lo.toNat 4 ++ h.Options)) := fun x => by simp only [hc5, List.append_assoc]
  have hA : (be (64 + (20 + h.Options.length) / 4) 1 ++ be h.Class.toNat 1 ++ be n 2 ++ be h.Mark.toNat 2 ++ be (cond h.Whole 64 0) 1 ++ be 0 1 ++ be h.TTL.toNat 1 ++ be h.Proto.toNat 1).length % 2 = 0 := by simp
  rw [e c, e 0]
  generalize be (64 + (20 + h.Options.length) / 4) 1 ++ be h.Class.toNat 1 ++ be n 2 ++ be h.Mark.toNat 2 ++ be (cond h.Whole 64 0) 1 ++ be 0 1 ++ be h.TTL.toNat 1 ++ be h.Proto.toNat 1 = A at hA
  rw [wsum_append _ _ hA, wsum_append _ _ hA, wsum_append (be c 2) _ (by simp), wsum_append (be 0 2) _ (by simp), wsum_be2 hc, wsum_be2 (by omega)]; omega
def ck5 (h : ipfour_Head) (n : Nat) : Nat := 65535 - norm (wsum (hc5 h n 0))
theorem ck5_ok (h : ipfour_Head) (n : Nat) : ck5 h n ≤ 65535 ∧ wsum (hc5 h n (ck5 h n)) % 65535 = 0 ∧ wsum (hc5 h n (ck5 h n)) ≠ 0 := by
  have n1 := norm_le (wsum (hc5 h n 0))
  have n2 := norm_mod (wsum (hc5 h n 0))
  have n3 := norm_zero (wsum (hc5 h n 0))
  have hk : ck5 h n < 65536 := by unfold ck5; omega
  rw [hc5_sum hk]
  unfold ck5; omega
end Go.Vm.Code
namespace Go.Vm.Code
open Go Go.Vm Go.Proofs
set_option maxRecDepth 100000
set_option maxHeartbeats 4000000
set_option linter.unusedVariables false
def R06_inF (n : Int) (most : Int) : Option Bool :=
  cond (decide (n ≥ 0))
    (
    some (decide (n ≤ most)))
    (
    some (false))
def rx132 (x : Bool) : SRes := ⟨.bool x, [], []⟩
def r132 (g : Int → Int → Option Bool) : Dec := dV (asI .i64) fun (y0 : Int) => dV (asI .i64) fun (y1 : Int) => dEnd (ofG (g y0 y1) rx132)
theorem r132_c {g : Int → Int → Option Bool} {y0 : Int} {y1 : Int} {x : Bool} (hx : g y0 y1 = some x) : r132 g [.int .i64 y0, .int .i64 y1] [] = some (rx132 x) := (dV_eq (asI_c _)).trans ((dV_eq (asI_c _)).trans (ofG_eq hx))
def s132 (g : Int → Int → Option Bool) : Summ := ⟨[.v, .v], r132 g⟩
theorem r132_eq {g : Int → Int → Option Bool} {y0 : Int} {y1 : Int} {x : Bool} (hx : g y0 y1 = some x) : (s132 g).run [.int .i64 y0, .int .i64 y1] [] = some (rx132 x) := r132_c hx
abbrev sums132 : List (Nat × Summ) := []
theorem leads132 (hS : SumsOK Try.prog (aget (sums132))) (n : Int) (most : Int) (res : Bool) (h : R06_inF n most = some res) :
    Leads Try.prog 132 0 ⟨⟨132, 12, [(0, .int .i64 n), (1, .int .i64 most)], [.code k132_3], [], false, none⟩, [], [], 0⟩ (fun v H _ => Res 0 (rx132 res) v H) := by
  unfold R06_inF at h
  refine ev_ok tab_ok hS true 3000 ?_
  conv => whnf
  refine br.h h ?_ ?_ ?_
  · rfl
  · clear h; intro hb h; conv => whnf
    all_goals (cases h; exact Res.z rfl rfl rfl)
  clear h; intro hb h; conv => whnf
  all_goals (cases h; exact Res.z rfl rfl rfl)
theorem ok132 (hS : SumsOK Try.prog (aget (sums132))) : SumOK Try.prog 132 (s132 (R06_inF)) := by
  refine SumOK.of_leads tab_ok (fun ar os r ha hr => ?_) ⟨Try.f132, rfl, by decide, rfl⟩
  replace hr : r132 (R06_inF) ar (conts os) = some r := hr
  unfold r132 at hr
  generalize hc : conts os = C at hr
  replace hr := dV.elim hr; obtain ⟨v0, l1, y0, rfl, e0, hr⟩ := hr; obtain rfl := asI_eq _ _ _ e0
  replace hr := dV.elim hr; obtain ⟨v1, l2, y1, rfl, e1, hr⟩ := hr; obtain rfl := asI_eq _ _ _ e1
  replace hr := dFin hr; obtain ⟨rfl, rfl, x, h, rfl⟩ := hr
  obtain rfl := kinds_nil hc
  exact ⟨_, rfl, leads132 hS _ _ x h⟩
def R06_in : Int → Int → Option Bool := R06_inF
theorem lift132 : SumOK Try.prog 132 (s132 R06_in) := ok132 (SumsOK.of_tab trivial)
def R06_RightF (R06_in : Int → Int → Option Bool) (ha0 : ipsix_Head) : Option Bool :=
  (R06_in ha0.Class 255).bind fun i =>
  cond (i)
    (
    (R06_in ha0.Label 1048575).bind fun i1 =>
    cond (i1)
      (
      (R06_in ha0.Next 255).bind fun i2 =>
      cond (i2)
        (
        (R06_in ha0.Hop 255).bind fun i3 =>
        cond (i3)
          (
          cond (ha0.Src.V6)
            (
            some (ha0.Dst.V6))
            (
            some (false)))
          (
          some (false)))
        (
        some (false)))
      (
      some (false)))
    (
    some (false))
def rx124 (x : Bool) : SRes := ⟨.bool x, [], []⟩
def r124 (g : ipsix_Head → Option Bool) : Dec := dV uvipsix_Head fun (y0 : ipsix_Head) => dEnd (ofG (g y0) rx124)
theorem r124_c {g : ipsix_Head → Option Bool} {y0 : ipsix_Head} {x : Bool} (hx : g y0 = some x) : r124 g [.agg ⟨[.int .i64 y0.Class, .int .i64 y0.Label, .int .i64 y0.Next, .int .i64 y0.Hop, .bool y0.Src.V6, .int .u64 y0.Src.Hi, .int .u64 y0.Src.Lo, .bool y0.Dst.V6, .int .u64 y0.Dst.Hi, .int .u64 y0.Dst.Lo]⟩] [] = some (rx124 x) := (dV_eq (uvipsix_Head_c _)).trans (ofG_eq hx)
def s124 (g : ipsix_Head → Option Bool) : Summ := ⟨[.v], r124 g⟩
theorem r124_eq {g : ipsix_Head → Option Bool} {y0 : ipsix_Head} {x : Bool} (hx : g y0 = some x) : (s124 g).run [.agg ⟨[.int .i64 y0.Class, .int .i64 y0.Label, .int .i64 y0.Next, .int .i64 y0.Hop, .bool y0.Src.V6, .int .u64 y0.Src.Hi, .int .u64 y0.Src.Lo, .bool y0.Dst.V6, .int .u64 y0.Dst.Hi, .int .u64 y0.Dst.Lo]⟩] [] = some (rx124 x) := r124_c hx
abbrev sums124 (R06_in : Int → Int → Option Bool) : List (Nat × Summ) := [(132, s132 R06_in)]
theorem leads124 (R06_in : Int → Int → Option Bool) (hS : SumsOK Try.prog (aget (sums124 R06_in))) (ha0 : ipsix_Head) (res : Bool) (h : R06_RightF R06_in ha0 = some res) :
    Leads Try.prog 124 0 ⟨⟨124, 31, [(0, .agg ⟨[.int .i64 ha0.Class, .int .i64 ha0.Label, .int .i64 ha0.Next, .int .i64 ha0.Hop, .bool ha0.Src.V6, .int .u64 ha0.Src.Hi, .int .u64 ha0.Src.Lo, .bool ha0.Dst.V6, .int .u64 ha0.Dst.Hi, .int .u64 ha0.Dst.Lo]⟩)], [.code k124_3], [], false, none⟩, [], [], 0⟩ (fun v H _ => Res 0 (rx124 res) v H) := by
  unfold R06_RightF at h
  refine ev_ok tab_ok hS true 3000 ?_
  conv => whnf
  replace h := obind.elim h; obtain ⟨i, hy, h⟩ := h
  refine sumK.q rfl rfl (r132_eq hy) rfl rfl rfl ?_
  conv => whnf
  refine br.h2 h ?_ ?_ ?_
  · rfl
  · clear h; intro hb h; conv => whnf
    all_goals (cases h; exact Res.z rfl rfl rfl)
  clear h; intro hb h; conv => whnf
  replace h := obind.elim h; obtain ⟨i1, hy, h⟩ := h
  refine sumK.q rfl rfl (r132_eq hy) rfl rfl rfl ?_
  conv => whnf
  refine br.h2 h ?_ ?_ ?_
  · rfl
  · clear h; intro hb h; conv => whnf
    all_goals (cases h; exact Res.z rfl rfl rfl)
  clear h; intro hb h; conv => whnf
  replace h := obind.elim h; obtain ⟨i2, hy, h⟩ := h
  refine sumK.q rfl rfl (r132_eq hy) rfl rfl rfl ?_
  conv => whnf
  refine br.h2 h ?_ ?_ ?_
  · rfl
  · clear h; intro hb h; conv => whnf
    all_goals (cases h; exact Res.z rfl rfl rfl)
  clear h; intro hb h; conv => whnf
  replace h := obind.elim h; obtain ⟨i3, hy, h⟩ := h
  refine sumK.q rfl rfl (r132_eq hy) rfl rfl rfl ?_
  conv => whnf
  refine br.h2 h ?_ ?_ ?_
  · rfl
  · clear h; intro hb h; conv => whnf
    all_goals (cases h; exact Res.z rfl rfl rfl)
  clear h; intro hb h; conv => whnf
  refine br.h h ?_ ?_ ?_
  · rfl
  · clear h; intro hb h; conv => whnf
    all_goals (cases h; exact Res.z rfl rfl rfl)
  clear h; intro hb h; conv => whnf
  all_goals (cases h; exact Res.z rfl rfl rfl)
theorem ok124 (R06_in : Int → Int → Option Bool) (hS : SumsOK Try.prog (aget (sums124 R06_in))) : SumOK Try.prog 124 (s124 (R06_RightF R06_in)) := by
  refine SumOK.of_leads tab_ok (fun ar os r ha hr => ?_) ⟨Try.f124, rfl, by decide, rfl⟩
  replace hr : r124 (R06_RightF R06_in) ar (conts os) = some r := hr
  unfold r124 at hr
  generalize hc : conts os = C at hr
  replace hr := dV.elim hr; obtain ⟨v0, l1, y0, rfl, e0, hr⟩ := hr; obtain rfl := uvipsix_Head_eq _ _ e0
  replace hr := dFin hr; obtain ⟨rfl, rfl, x, h, rfl⟩ := hr
  obtain rfl := kinds_nil hc
  exact ⟨_, rfl, leads124 R06_in hS _ x h⟩
def R06_Right : ipsix_Head → Option Bool := R06_RightF R06_in
theorem lift124 : SumOK Try.prog 124 (s124 R06_Right) := ok124 R06_in (SumsOK.of_tab ⟨lift132, trivial⟩)
def R06_numF (R02_Put : Int → Int → Option (List UInt8)) (n : Int) (k : Int) : Option (List UInt8) :=
  (R02_Put (wI .u64 n) k).bind fun p =>
  some (p)
def rx125 (x : List UInt8) : SRes := ⟨.string ⟨⟨x⟩⟩, [], []⟩
def r125 (g : Int → Int → Option (List UInt8)) : Dec := dV (asI .i64) fun (y0 : Int) => dV (asI .i64) fun (y1 : Int) => dEnd (ofG (g y0 y1) rx125)
theorem r125_c {g : Int → Int → Option (List UInt8)} {y0 : Int} {y1 : Int} {x : List UInt8} (hx : g y0 y1 = some x) : r125 g [.int .i64 y0, .int .i64 y1] [] = some (rx125 x) := (dV_eq (asI_c _)).trans ((dV_eq (asI_c _)).trans (ofG_eq hx))
def s125 (g : Int → Int → Option (List UInt8)) : Summ := ⟨[.v, .v], r125 g⟩
theorem r125_eq {g : Int → Int → Option (List UInt8)} {y0 : Int} {y1 : Int} {x : List UInt8} (hx : g y0 y1 = some x) : (s125 g).run [.int .i64 y0, .int .i64 y1] [] = some (rx125 x) := r125_c hx
abbrev sums125 (R02_Put : Int → Int → Option (List UInt8)) : List (Nat × Summ) := [(67, s67 R02_Put)]
theorem leads125 (R02_Put : Int → Int → Option (List UInt8)) (hS : SumsOK Try.prog (aget (sums125 R02_Put))) (n : Int) (k : Int) (res : List UInt8) (h : R06_numF R02_Put n k = some res) :
    Leads Try.prog 125 0 ⟨⟨125, 9, [(0, .int .i64 n), (1, .int .i64 k)], [.code k125_3], [], false, none⟩, [], [], 0⟩ (fun v H _ => Res 0 (rx125 res) v H) := by
  unfold R06_numF at h
  refine ev_ok tab_ok hS true 3000 ?_
  conv => whnf
  replace h := obind.elim h; obtain ⟨p, hy, h⟩ := h
  refine sumK.q rfl rfl (r67_eq hy) rfl rfl rfl ?_
  conv => whnf
  all_goals (cases h; exact Res.z rfl rfl rfl)
theorem ok125 (R02_Put : Int → Int → Option (List UInt8)) (hS : SumsOK Try.prog (aget (sums125 R02_Put))) : SumOK Try.prog 125 (s125 (R06_numF R02_Put)) := by
  refine SumOK.of_leads tab_ok (fun ar os r ha hr => ?_) ⟨Try.f125, rfl, by decide, rfl⟩
  replace hr : r125 (R06_numF R02_Put) ar (conts os) = some r := hr
  unfold r125 at hr
  generalize hc : conts os = C at hr
  replace hr := dV.elim hr; obtain ⟨v0, l1, y0, rfl, e0, hr⟩ := hr; obtain rfl := asI_eq _ _ _ e0
  replace hr := dV.elim hr; obtain ⟨v1, l2, y1, rfl, e1, hr⟩ := hr; obtain rfl := asI_eq _ _ _ e1
  replace hr := dFin hr; obtain ⟨rfl, rfl, x, h, rfl⟩ := hr
  obtain rfl := kinds_nil hc
  exact ⟨_, rfl, leads125 R02_Put hS _ _ x h⟩
def R06_num : Int → Int → Option (List UInt8) := R06_numF R02_Put
theorem lift125 : SumOK Try.prog 125 (s125 R06_num) := ok125 R02_Put (SumsOK.of_tab ⟨lift67, trivial⟩)
def R06_PutF (R04_Put : api_Addr → Option (List UInt8)) (R06_Right : ipsix_Head → Option Bool) (R06_num : Int → Int → Option (List UInt8)) (ha0 : ipsix_Head) (payload : List UInt8) : Option ((List UInt8) × Int) :=
  (R06_Right ha0).bind fun xr =>
  cond (!xr)
    (
    some (([], 1)))
    (
    cond (decide ((payload.length : Int) > 65535))
      (
      some (([], 5)))
      (
      let t := wI .i64 (1610612736 + (wI .i64 (ha0.Class * 1048576)))
      (R06_num (wI .i64 (t + ha0.Label)) 4).bind fun n =>
      (R06_num (payload.length : Int) 2).bind fun n1 =>
      oreq (decide (n.length + n1.length < 2 ^ 63)) <|
      (R06_num ha0.Next 1).bind fun n2 =>
      oreq (decide ((n ++ n1).length + n2.length < 2 ^ 63)) <|
      (R06_num ha0.Hop 1).bind fun n3 =>
      oreq (decide (((n ++ n1) ++ n2).length + n3.length < 2 ^ 63)) <|
      (R04_Put ha0.Src).bind fun p =>
      oreq (decide ((((n ++ n1) ++ n2) ++ n3).length + p.length < 2 ^ 63)) <|
      (R04_Put ha0.Dst).bind fun p1 =>
      oreq (decide (((((n ++ n1) ++ n2) ++ n3) ++ p).length + p1.length < 2 ^ 63)) <|
      oreq (decide ((((((n ++ n1) ++ n2) ++ n3) ++ p) ++ p1).length + payload.length < 2 ^ 63)) <|
      let t1 := (((((n ++ n1) ++ n2) ++ n3) ++ p) ++ p1) ++ payload
      some ((t1, 0))))
def rx99 (x : (List UInt8) × Int) : SRes := ⟨.tuple ⟨[.string ⟨⟨x.1⟩⟩, .int .i64 x.2]⟩, [], []⟩
def r99 (g : ipsix_Head → (List UInt8) → Option ((List UInt8) × Int)) : Dec := dV uvipsix_Head fun (y0 : ipsix_Head) => dV asS fun (y1 : List UInt8) => dEnd (ofG (g y0 y1) rx99)
theorem r99_c {g : ipsix_Head → (List UInt8) → Option ((List UInt8) × Int)} {y0 : ipsix_Head} {y1 : List UInt8} {x : (List UInt8) × Int} (hx : g y0 y1 = some x) : r99 g [.agg ⟨[.int .i64 y0.Class, .int .i64 y0.Label, .int .i64 y0.Next, .int .i64 y0.Hop, .bool y0.Src.V6, .int .u64 y0.Src.Hi, .int .u64 y0.Src.Lo, .bool y0.Dst.V6, .int .u64 y0.Dst.Hi, .int .u64 y0.Dst.Lo]⟩, .string ⟨⟨y1⟩⟩] [] = some (rx99 x) := (dV_eq (uvipsix_Head_c _)).trans ((dV_eq (asS_c)).trans (ofG_eq hx))
def s99 (g : ipsix_Head → (List UInt8) → Option ((List UInt8) × Int)) : Summ := ⟨[.v, .v], r99 g⟩
theorem r99_eq {g : ipsix_Head → (List UInt8) → Option ((List UInt8) × Int)} {y0 : ipsix_Head} {y1 : List UInt8} {x : (List UInt8) × Int} (hx : g y0 y1 = some x) : (s99 g).run [.agg ⟨[.int .i64 y0.Class, .int .i64 y0.Label, .int .i64 y0.Next, .int .i64 y0.Hop, .bool y0.Src.V6, .int .u64 y0.Src.Hi, .int .u64 y0.Src.Lo, .bool y0.Dst.V6, .int .u64 y0.Dst.Hi, .int .u64 y0.Dst.Lo]⟩, .string ⟨⟨y1⟩⟩] [] = some (rx99 x) := r99_c hx
abbrev sums99 (R04_Put : api_Addr → Option (List UInt8)) (R06_Right : ipsix_Head → Option Bool) (R06_num : Int → Int → Option (List UInt8)) : List (Nat × Summ) := [(81, s81 R04_Put), (124, s124 R06_Right), (125, s125 R06_num)]
theorem leads99 (R04_Put : api_Addr → Option (List UInt8)) (R06_Right : ipsix_Head → Option Bool) (R06_num : Int → Int → Option (List UInt8)) (hS : SumsOK Try.prog (aget (sums99 R04_Put R06_Right R06_num))) (ha0 : ipsix_Head) (payload : List UInt8) (res : (List UInt8) × Int) (h : R06_PutF R04_Put R06_Right R06_num ha0 payload = some res) :
    Leads Try.prog 99 0 ⟨⟨99, 42, [(0, .agg ⟨[.int .i64 ha0.Class, .int .i64 ha0.Label, .int .i64 ha0.Next, .int .i64 ha0.Hop, .bool ha0.Src.V6, .int .u64 ha0.Src.Hi, .int .u64 ha0.Src.Lo, .bool ha0.Dst.V6, .int .u64 ha0.Dst.Hi, .int .u64 ha0.Dst.Lo]⟩), (1, .string ⟨⟨payload⟩⟩)], [.code k99_15], [], false, none⟩, [], [], 0⟩ (fun v H _ => Res 0 (rx99 res) v H) := by
  unfold R06_PutF at h
  refine ev_ok tab_ok hS true 3000 ?_
  conv => whnf
  replace h := obind.elim h; obtain ⟨xr, hy, h⟩ := h
  refine sumK.q rfl rfl (r124_eq hy) rfl rfl rfl ?_
  conv => whnf
  refine br.h h ?_ ?_ ?_
  · rfl
  · clear h; intro hb h; conv => whnf
    all_goals (cases h; exact Res.z rfl rfl rfl)
  clear h; intro hb h; conv => whnf
  refine br.h h ?_ ?_ ?_
  · rfl
  · clear h; intro hb h; conv => whnf
    all_goals (cases h; exact Res.z rfl rfl rfl)
  clear h; intro hb h; conv => whnf
  let t : Int := wI .i64 (1610612736 + (wI .i64 (ha0.Class * 1048576)))
  replace h := obind.elim h; obtain ⟨n, hy, h⟩ := h
  refine sumK.q rfl rfl (r125_eq hy) rfl rfl rfl ?_
  conv => whnf
  replace h := obind.elim h; obtain ⟨n1, hy, h⟩ := h
  refine sumK.q rfl rfl (r125_eq hy) rfl rfl rfl ?_
  conv => whnf
  replace h := oreq.elim h; obtain ⟨hb, h⟩ := h
  first | (refine req.intro hb ?_; conv => whnf) | skip
  replace h := obind.elim h; obtain ⟨n2, hy, h⟩ := h
  refine sumK.q rfl rfl (r125_eq hy) rfl rfl rfl ?_
  conv => whnf
  replace h := oreq.elim h; obtain ⟨hb, h⟩ := h
  first | (refine req.intro hb ?_; conv => whnf) | skip
  replace h := obind.elim h; obtain ⟨n3, hy, h⟩ := h
  refine sumK.q rfl rfl (r125_eq hy) rfl rfl rfl ?_
  conv => whnf
  replace h := oreq.elim h; obtain ⟨hb, h⟩ := h
  first | (refine req.intro hb ?_; conv => whnf) | skip
  replace h := obind.elim h; obtain ⟨p, hy, h⟩ := h
  refine sumK.q rfl rfl (r81_eq hy) rfl rfl rfl ?_
  conv => whnf
  replace h := oreq.elim h; obtain ⟨hb, h⟩ := h
  first | (refine req.intro hb ?_; conv => whnf) | skip
  replace h := obind.elim h; obtain ⟨p1, hy, h⟩ := h
  refine sumK.q rfl rfl (r81_eq hy) rfl rfl rfl ?_
  conv => whnf
  replace h := oreq.elim h; obtain ⟨hb, h⟩ := h
  first | (refine req.intro hb ?_; conv => whnf) | skip
  replace h := oreq.elim h; obtain ⟨hb, h⟩ := h
  first | (refine req.intro hb ?_; conv => whnf) | skip
  let t1 : List UInt8 := (((((n ++ n1) ++ n2) ++ n3) ++ p) ++ p1) ++ payload
  all_goals (cases h; exact Res.z rfl rfl rfl)
theorem ok99 (R04_Put : api_Addr → Option (List UInt8)) (R06_Right : ipsix_Head → Option Bool) (R06_num : Int → Int → Option (List UInt8)) (hS : SumsOK Try.prog (aget (sums99 R04_Put R06_Right R06_num))) : SumOK Try.prog 99 (s99 (R06_PutF R04_Put R06_Right R06_num)) := by
  refine SumOK.of_leads tab_ok (fun ar os r ha hr => ?_) ⟨Try.f99, rfl, by decide, rfl⟩
  replace hr : r99 (R06_PutF R04_Put R06_Right R06_num) ar (conts os) = some r := hr
  unfold r99 at hr
  generalize hc : conts os = C at hr
  replace hr := dV.elim hr; obtain ⟨v0, l1, y0, rfl, e0, hr⟩ := hr; obtain rfl := uvipsix_Head_eq _ _ e0
  replace hr := dV.elim hr; obtain ⟨v1, l2, y1, rfl, e1, hr⟩ := hr; obtain rfl := asS_eq _ _ e1
  replace hr := dFin hr; obtain ⟨rfl, rfl, x, h, rfl⟩ := hr
  obtain rfl := kinds_nil hc
  exact ⟨_, rfl, leads99 R04_Put R06_Right R06_num hS _ _ x h⟩
def R06_Put : ipsix_Head → (List UInt8) → Option ((List UInt8) × Int) := R06_PutF R04_Put R06_Right R06_num
theorem lift99 : SumOK Try.prog 99 (s99 R06_Put) := ok99 R04_Put R06_Right R06_num (SumsOK.of_tab ⟨lift81, lift124, lift125, trivial⟩)
end Go.Vm.Code
namespace Go.Vm.Code
open Go Go.Vm
def AddrOK (a : api_Addr) : Prop := (0 ≤ a.Hi ∧ a.Hi < 2 ^ 64) ∧ 0 ≤ a.Lo ∧ a.Lo < 2 ^ 64
def addrB (a : api_Addr) : List UInt8 := be a.Hi.toNat 8 ++ be a.Lo.toNat 8
theorem R04_Put6 {a : api_Addr} (h : AddrOK a) (h6 : a.V6 = true) : R04_Put a = some (addrB a) := by
  unfold R04_Put R04_PutF R04_Right R04_RightF
  rw [h6]
  simp only [cond_true, Option.bind_some, Bool.not_true, cond_false]
  rw [R02_Put_eq h.1.1 h.1.2, R02_Put_eq h.2.1 h.2.2]
  simp only [Option.bind_some, putS]
  rw [if_pos (by omega), if_pos (by omega), oreq_p (by simp)]; rfl
def addrG (s : List UInt8) : api_Addr := ⟨true, (valL (s.take 8) : Nat), (valL (s.drop 8) : Nat)⟩
def H6 (h : ipsix_Head) : Prop := (0 ≤ h.Class ∧ h.Class ≤ 255) ∧ (0 ≤ h.Label ∧ h.Label ≤ 1048575) ∧ (0 ≤ h.Next ∧ h.Next ≤ 255) ∧ (0 ≤ h.Hop ∧ h.Hop ≤ 255) ∧ h.Src.V6 = true ∧ h.Dst.V6 = true
instance (h : ipsix_Head) : Decidable (H6 h) := inferInstanceAs (Decidable (_ ∧ _))
theorem in6_eq (n m : Int) : R06_in n m = some (decide (0 ≤ n ∧ n ≤ m)) := by
  unfold R06_in R06_inF
  by_cases h : n ≥ 0
  · rw [cond_p h]; congr 1; rw [Bool.eq_iff_iff, decide_eq_true_eq, decide_eq_true_eq]; omega
  · rw [cond_n h]; congr 1; symm; exact decide_eq_false (by omega)
theorem right6_eq (h : ipsix_Head) : R06_Right h = some (decide (H6 h)) := by
  unfold R06_Right R06_RightF
  simp only [in6_eq, Option.bind_some, cond_dec]
  by_cases hh : H6 h
  · rw [decide_eq_true hh]
    obtain ⟨a, b, c, d, e, f⟩ := hh
    rw [if_pos a, if_pos b, if_pos c, if_pos d, e, f]; rfl
  · rw [decide_eq_false hh]
    unfold H6 at hh
    repeat' split
    all_goals first | rfl | skip
    cases e : h.Src.V6
    · rfl
    · rw [cond_true]
      cases f : h.Dst.V6
      · rfl
      · exact absurd ⟨by assumption, by assumption, by assumption, by assumption, e, f⟩ hh
def headB (h : ipsix_Head) (n : Nat) : List UInt8 := be (6 * 2 ^ 28 + h.Class.toNat * 2 ^ 20 + h.Label.toNat) 4 ++ be n 2 ++ be h.Next.toNat 1 ++ be h.Hop.toNat 1 ++ addrB h.Src ++ addrB h.Dst
theorem headB_len (h : ipsix_Head) (n : Nat) : (headB h n).length = 40 := by simp [headB, addrB]
def put6 (h : ipsix_Head) (p : List UInt8) : List UInt8 × Int := if ¬ H6 h then ([], 1) else if p.length > 65535 then ([], 5) else (headB h p.length ++ p, 0)
theorem num6 {n k : Int} (h0 : 0 ≤ n) (h1 : n < 2 ^ 64) : R06_num n k = some (putS n k) := by
  unfold R06_num R06_numF
  rw [wU64 h0 (by omega), R02_Put_eq h0 h1]; rfl
theorem rput6_eq {h : ipsix_Head} {p : List UInt8} (hs : AddrOK h.Src) (hd : AddrOK h.Dst) (hp : p.length < 2 ^ 60) : R06_Put h p = some (put6 h p) := by
  unfold R06_Put R06_PutF put6
  rw [right6_eq, Option.bind_some]
  by_cases hh : H6 h
  · rw [decide_eq_true hh, Bool.not_true, cond_false, if_neg (by simpa using hh)]
    obtain ⟨a, b, c, d, e, f⟩ := hh
    by_cases h5 : (p.length : Int) > 65535
    · rw [cond_p h5, if_pos (by omega)]
    rw [cond_n h5, if_neg (by omega)]
    simp only []
    obtain ⟨C, hC⟩ := Int.eq_ofNat_of_zero_le a.1
    obtain ⟨L, hL⟩ := Int.eq_ofNat_of_zero_le b.1
    rw [hC] at a; rw [hL] at b
    have e1 : wI .i64 (wI .i64 (1610612736 + (wI .i64 (h.Class * 1048576))) + h.Label) = ((6 * 2 ^ 28 + C * 2 ^ 20 + L : Nat) : Int) := by
      rw [hC, hL, wI64 (n := (C : Int) * 1048576) (by omega) (by omega), wI64 (n := 1610612736 + (C : Int) * 1048576) (by omega) (by omega), wI64 (by omega) (by omega)]; omega
    rw [e1, R04_Put6 hs e, R04_Put6 hd f, num6 (by omega) (by omega), num6 (by omega) (by omega), num6 c.1 (by omega), num6 d.1 (by omega)]
    simp only [Option.bind_some, putS]
    rw [if_pos (by omega), if_pos (by omega), if_pos (by omega), if_pos (by omega)]
    simp only [Int.toNat_natCast, show (4 : Int).toNat = 4 from rfl, show (2 : Int).toNat = 2 from rfl, show (1 : Int).toNat = 1 from rfl]
    rw [oreq_p (by simp), oreq_p (by simp), oreq_p (by simp), oreq_p (by simp [addrB]), oreq_p (by simp [addrB]), oreq_p (by simp [addrB]; omega)]
    simp [headB, hC, hL]
  · rw [decide_eq_false hh, Bool.not_false, cond_true, if_pos hh]
theorem addrG_addrB {a : api_Addr} (h : AddrOK a) (h6 : a.V6 = true) : addrG (addrB a) = a := by
  obtain ⟨v, hi, lo⟩ := a
  simp only [AddrOK] at h h6
  subst h6
  unfold addrG addrB
  have e1 : (be hi.toNat 8 ++ be lo.toNat 8).take 8 = be hi.toNat 8 := by rw [List.take_append_of_le_length (by simp), List.take_of_length_le (by simp)]
  have e2 : (be hi.toNat 8 ++ be lo.toNat 8).drop 8 = be lo.toNat 8 := by rw [List.drop_append_of_le_length (by simp), List.drop_of_length_le (by simp)]; rfl
  rw [e1, e2, val_be_lt (by have := h.1; omega), val_be_lt (by have := h.2; omega), Int.toNat_of_nonneg h.1.1, Int.toNat_of_nonneg h.2.1]
theorem parts6 {a b c d e f r : List UInt8} (ha : a.length = 4) (hb : b.length = 2) (hc : c.length = 1) (hd : d.length = 1) (he : e.length = 16) (hf : f.length = 16) :
    let s := a ++ b ++ c ++ d ++ e ++ f ++ r
    s.take 4 = a ∧ (s.drop 4).take 2 = b ∧ (s.drop 6).take 1 = c ∧ (s.drop 7).take 1 = d ∧ (s.drop 8).take 16 = e ∧ (s.drop 24).take 16 = f ∧ s.drop 40 = r := by
  have d4 : ∀ x : List UInt8, (a ++ x).drop 4 = x := fun x => by rw [← ha]; exact List.drop_left
  have d2 : ∀ x : List UInt8, (b ++ x).drop 2 = x := fun x => by rw [← hb]; exact List.drop_left
  have dc : ∀ x : List UInt8, (c ++ x).drop 1 = x := fun x => by rw [← hc]; exact List.drop_left
  have dd : ∀ x : List UInt8, (d ++ x).drop 1 = x := fun x => by rw [← hd]; exact List.drop_left
  have de : ∀ x : List UInt8, (e ++ x).drop 16 = x := fun x => by rw [← he]; exact List.drop_left
  have df : ∀ x : List UInt8, (f ++ x).drop 16 = x := fun x => by rw [← hf]; exact List.drop_left
  simp only [List.append_assoc]
  have e6 : (a ++ (b ++ (c ++ (d ++ (e ++ (f ++ r)))))).drop 6 = c ++ (d ++ (e ++ (f ++ r))) := by
    rw [show 6 = 4 + 2 from rfl, ← List.drop_drop, d4, d2]
  have e7 : (a ++ (b ++ (c ++ (d ++ (e ++ (f ++ r)))))).drop 7 = d ++ (e ++ (f ++ r)) := by
    rw [show 7 = 6 + 1 from rfl, ← List.drop_drop, e6, dc]
  have e8 : (a ++ (b ++ (c ++ (d ++ (e ++ (f ++ r)))))).drop 8 = e ++ (f ++ r) := by
    rw [show 8 = 7 + 1 from rfl, ← List.drop_drop, e7, dd]
  have e24 : (a ++ (b ++ (c ++ (d ++ (e ++ (f ++ r)))))).drop 24 = f ++ r := by
    rw [show 24 = 8 + 16 from rfl, ← List.drop_drop, e8, de]
  have e40 : (a ++ (b ++ (c ++ (d ++ (e ++ (f ++ r)))))).drop 40 = r := by
    rw [show 40 = 24 + 16 from rfl, ← List.drop_drop, e24, df]
  refine ⟨by rw [← ha]; exact List.take_left, ?_, ?_, ?_, ?_, ?_, e40⟩
  · rw [d4, ← hb]; exact List.take_left
  · rw [e6, ← hc]; exact List.take_left
  · rw [e7, ← hd]; exact List.take_left
  · rw [e8, ← he]; exact List.take_left
  · rw [e24, ← hf]; exact List.take_left
theorem setS_mid {A B : List UInt8} {p : Nat} {c : Int} (hA : A.length = p) : setS (A ++ (be 0 2 ++ B)) (p : Int) 2 c = A ++ (be c.toNat 2 ++ B) := by
  subst hA
  unfold setS
  rw [if_pos (by simp only [List.length_append, be_len]; omega), Int.toNat_natCast, List.take_left, show ((A.length : Int) + 2).toNat = A.length + 2 by omega, ← List.drop_drop, List.drop_left, show (be 0 2 ++ B).drop 2 = B from rfl, List.append_assoc]; rfl
def ckN (W : Nat) : Nat := 65535 - norm W
end Go.Vm.Code
namespace Go.Vm.Code
open Go Go.Vm Go.Proofs
set_option maxRecDepth 100000
set_option maxHeartbeats 4000000
set_option linter.unusedVariables false
def R07_inF (n : Int) (most : Int) : Option Bool :=
  cond (decide (n ≥ 0))
    (
    some (decide (n ≤ most)))
    (
    some (false))
def rx127 (x : Bool) : SRes := ⟨.bool x, [], []⟩
def r127 (g : Int → Int → Option Bool) : Dec := dV (asI .i64) fun (y0 : Int) => dV (asI .i64) fun (y1 : Int) => dEnd (ofG (g y0 y1) rx127)
theorem r127_c {g : Int → Int → Option Bool} {y0 : Int} {y1 : Int} {x : Bool} (hx : g y0 y1 = some x) : r127 g [.int .i64 y0, .int .i64 y1] [] = some (rx127 x) := (dV_eq (asI_c _)).trans ((dV_eq (asI_c _)).trans (ofG_eq hx))
def s127 (g : Int → Int → Option Bool) : Summ := ⟨[.v, .v], r127 g⟩
theorem r127_eq {g : Int → Int → Option Bool} {y0 : Int} {y1 : Int} {x : Bool} (hx : g y0 y1 = some x) : (s127 g).run [.int .i64 y0, .int .i64 y1] [] = some (rx127 x) := r127_c hx
abbrev sums127 : List (Nat × Summ) := []
theorem leads127 (hS : SumsOK Try.prog (aget (sums127))) (n : Int) (most : Int) (res : Bool) (h : R07_inF n most = some res) :
    Leads Try.prog 127 0 ⟨⟨127, 12, [(0, .int .i64 n), (1, .int .i64 most)], [.code k127_3], [], false, none⟩, [], [], 0⟩ (fun v H _ => Res 0 (rx127 res) v H) := by
  unfold R07_inF at h
  refine ev_ok tab_ok hS true 3000 ?_
  conv => whnf
  refine br.h h ?_ ?_ ?_
  · rfl
  · clear h; intro hb h; conv => whnf
    all_goals (cases h; exact Res.z rfl rfl rfl)
  clear h; intro hb h; conv => whnf
  all_goals (cases h; exact Res.z rfl rfl rfl)
theorem ok127 (hS : SumsOK Try.prog (aget (sums127))) : SumOK Try.prog 127 (s127 (R07_inF)) := by
  refine SumOK.of_leads tab_ok (fun ar os r ha hr => ?_) ⟨Try.f127, rfl, by decide, rfl⟩
  replace hr : r127 (R07_inF) ar (conts os) = some r := hr
  unfold r127 at hr
  generalize hc : conts os = C at hr
  replace hr := dV.elim hr; obtain ⟨v0, l1, y0, rfl, e0, hr⟩ := hr; obtain rfl := asI_eq _ _ _ e0
  replace hr := dV.elim hr; obtain ⟨v1, l2, y1, rfl, e1, hr⟩ := hr; obtain rfl := asI_eq _ _ _ e1
  replace hr := dFin hr; obtain ⟨rfl, rfl, x, h, rfl⟩ := hr
  obtain rfl := kinds_nil hc
  exact ⟨_, rfl, leads127 hS _ _ x h⟩
def R07_in : Int → Int → Option Bool := R07_inF
theorem lift127 : SumOK Try.prog 127 (s127 R07_in) := ok127 (SumsOK.of_tab trivial)
def R07_RightF (R07_in : Int → Int → Option Bool) (ha0 : tcp_Head) : Option Bool :=
  (R07_in ha0.SPort 65535).bind fun i =>
  cond (i)
    (
    (R07_in ha0.DPort 65535).bind fun i1 =>
    cond (i1)
      (
      (R07_in ha0.Flags 255).bind fun i2 =>
      cond (i2)
        (
        (R07_in ha0.Window 65535).bind fun i3 =>
        cond (i3)
          (
          (R07_in ha0.Urgent 65535).bind fun i4 =>
          cond (i4)
            (
            cond (decide ((ha0.Options.length : Int) ≤ 40))
              (
              some (((ha0.Options.length : Int).tmod 4) == 0))
              (
              some (false)))
            (
            some (false)))
          (
          some (false)))
        (
        some (false)))
      (
      some (false)))
    (
    some (false))
def rx108 (x : Bool) : SRes := ⟨.bool x, [], []⟩
def r108 (g : tcp_Head → Option Bool) : Dec := dV uvtcp_Head fun (y0 : tcp_Head) => dEnd (ofG (g y0) rx108)
theorem r108_c {g : tcp_Head → Option Bool} {y0 : tcp_Head} {x : Bool} (hx : g y0 = some x) : r108 g [.agg ⟨[.int .i64 y0.SPort, .int .i64 y0.DPort, .int .u32 y0.Seq, .int .u32 y0.Ack, .int .i64 y0.Flags, .int .i64 y0.Window, .int .i64 y0.Urgent, .string ⟨⟨y0.Options⟩⟩]⟩] [] = some (rx108 x) := (dV_eq (uvtcp_Head_c _)).trans (ofG_eq hx)
def s108 (g : tcp_Head → Option Bool) : Summ := ⟨[.v], r108 g⟩
theorem r108_eq {g : tcp_Head → Option Bool} {y0 : tcp_Head} {x : Bool} (hx : g y0 = some x) : (s108 g).run [.agg ⟨[.int .i64 y0.SPort, .int .i64 y0.DPort, .int .u32 y0.Seq, .int .u32 y0.Ack, .int .i64 y0.Flags, .int .i64 y0.Window, .int .i64 y0.Urgent, .string ⟨⟨y0.Options⟩⟩]⟩] [] = some (rx108 x) := r108_c hx
abbrev sums108 (R07_in : Int → Int → Option Bool) : List (Nat × Summ) := [(127, s127 R07_in)]
theorem leads108 (R07_in : Int → Int → Option Bool) (hS : SumsOK Try.prog (aget (sums108 R07_in))) (ha0 : tcp_Head) (res : Bool) (h : R07_RightF R07_in ha0 = some res) :
    Leads Try.prog 108 0 ⟨⟨108, 39, [(0, .agg ⟨[.int .i64 ha0.SPort, .int .i64 ha0.DPort, .int .u32 ha0.Seq, .int .u32 ha0.Ack, .int .i64 ha0.Flags, .int .i64 ha0.Window, .int .i64 ha0.Urgent, .string ⟨⟨ha0.Options⟩⟩]⟩)], [.code k108_3], [], false, none⟩, [], [], 0⟩ (fun v H _ => Res 0 (rx108 res) v H) := by
  unfold R07_RightF at h
  refine ev_ok tab_ok hS true 3000 ?_
  conv => whnf
  replace h := obind.elim h; obtain ⟨i, hy, h⟩ := h
  refine sumK.q rfl rfl (r127_eq hy) rfl rfl rfl ?_
  conv => whnf
  refine br.h2 h ?_ ?_ ?_
  · rfl
  · clear h; intro hb h; conv => whnf
    all_goals (cases h; exact Res.z rfl rfl rfl)
  clear h; intro hb h; conv => whnf
  replace h := obind.elim h; obtain ⟨i1, hy, h⟩ := h
  refine sumK.q rfl rfl (r127_eq hy) rfl rfl rfl ?_
  conv => whnf
  refine br.h2 h ?_ ?_ ?_
  · rfl
  · clear h; intro hb h; conv => whnf
    all_goals (cases h; exact Res.z rfl rfl rfl)
  clear h; intro hb h; conv => whnf
  replace h := obind.elim h; obtain ⟨i2, hy, h⟩ := h
  refine sumK.q rfl rfl (r127_eq hy) rfl rfl rfl ?_
  conv => whnf
  refine br.h2 h ?_ ?_ ?_
  · rfl
  · clear h; intro hb h; conv => whnf
    all_goals (cases h; exact Res.z rfl rfl rfl)
  clear h; intro hb h; conv => whnf
  replace h := obind.elim h; obtain ⟨i3, hy, h⟩ := h
  refine sumK.q rfl rfl (r127_eq hy) rfl rfl rfl ?_
  conv => whnf
  refine br.h2 h ?_ ?_ ?_
  · rfl
  · clear h; intro hb h; conv => whnf
    all_goals (cases h; exact Res.z rfl rfl rfl)
  clear h; intro hb h; conv => whnf
  replace h := obind.elim h; obtain ⟨i4, hy, h⟩ := h
  refine sumK.q rfl rfl (r127_eq hy) rfl rfl rfl ?_
  conv => whnf
  refine br.h2 h ?_ ?_ ?_
  · rfl
  · clear h; intro hb h; conv => whnf
    all_goals (cases h; exact Res.z rfl rfl rfl)
  clear h; intro hb h; conv => whnf
  refine br.h h ?_ ?_ ?_
  · rfl
  · clear h; intro hb h; conv => whnf
    all_goals (cases h; exact Res.z rfl rfl rfl)
  clear h; intro hb h; conv => whnf
  all_goals (cases h; exact Res.z rfl rfl rfl)
theorem ok108 (R07_in : Int → Int → Option Bool) (hS : SumsOK Try.prog (aget (sums108 R07_in))) : SumOK Try.prog 108 (s108 (R07_RightF R07_in)) := by
  refine SumOK.of_leads tab_ok (fun ar os r ha hr => ?_) ⟨Try.f108, rfl, by decide, rfl⟩
  replace hr : r108 (R07_RightF R07_in) ar (conts os) = some r := hr
  unfold r108 at hr
  generalize hc : conts os = C at hr
  replace hr := dV.elim hr; obtain ⟨v0, l1, y0, rfl, e0, hr⟩ := hr; obtain rfl := uvtcp_Head_eq _ _ e0
  replace hr := dFin hr; obtain ⟨rfl, rfl, x, h, rfl⟩ := hr
  obtain rfl := kinds_nil hc
  exact ⟨_, rfl, leads108 R07_in hS _ x h⟩
def R07_Right : tcp_Head → Option Bool := R07_RightF R07_in
theorem lift108 : SumOK Try.prog 108 (s108 R07_Right) := ok108 R07_in (SumsOK.of_tab ⟨lift127, trivial⟩)
def R07_numF (R02_Put : Int → Int → Option (List UInt8)) (n : Int) (k : Int) : Option (List UInt8) :=
  (R02_Put (wI .u64 n) k).bind fun p =>
  some (p)
def rx109 (x : List UInt8) : SRes := ⟨.string ⟨⟨x⟩⟩, [], []⟩
def r109 (g : Int → Int → Option (List UInt8)) : Dec := dV (asI .i64) fun (y0 : Int) => dV (asI .i64) fun (y1 : Int) => dEnd (ofG (g y0 y1) rx109)
theorem r109_c {g : Int → Int → Option (List UInt8)} {y0 : Int} {y1 : Int} {x : List UInt8} (hx : g y0 y1 = some x) : r109 g [.int .i64 y0, .int .i64 y1] [] = some (rx109 x) := (dV_eq (asI_c _)).trans ((dV_eq (asI_c _)).trans (ofG_eq hx))
def s109 (g : Int → Int → Option (List UInt8)) : Summ := ⟨[.v, .v], r109 g⟩
theorem r109_eq {g : Int → Int → Option (List UInt8)} {y0 : Int} {y1 : Int} {x : List UInt8} (hx : g y0 y1 = some x) : (s109 g).run [.int .i64 y0, .int .i64 y1] [] = some (rx109 x) := r109_c hx
abbrev sums109 (R02_Put : Int → Int → Option (List UInt8)) : List (Nat × Summ) := [(67, s67 R02_Put)]
theorem leads109 (R02_Put : Int → Int → Option (List UInt8)) (hS : SumsOK Try.prog (aget (sums109 R02_Put))) (n : Int) (k : Int) (res : List UInt8) (h : R07_numF R02_Put n k = some res) :
    Leads Try.prog 109 0 ⟨⟨109, 9, [(0, .int .i64 n), (1, .int .i64 k)], [.code k109_3], [], false, none⟩, [], [], 0⟩ (fun v H _ => Res 0 (rx109 res) v H) := by
  unfold R07_numF at h
  refine ev_ok tab_ok hS true 3000 ?_
  conv => whnf
  replace h := obind.elim h; obtain ⟨p, hy, h⟩ := h
  refine sumK.q rfl rfl (r67_eq hy) rfl rfl rfl ?_
  conv => whnf
  all_goals (cases h; exact Res.z rfl rfl rfl)
theorem ok109 (R02_Put : Int → Int → Option (List UInt8)) (hS : SumsOK Try.prog (aget (sums109 R02_Put))) : SumOK Try.prog 109 (s109 (R07_numF R02_Put)) := by
  refine SumOK.of_leads tab_ok (fun ar os r ha hr => ?_) ⟨Try.f109, rfl, by decide, rfl⟩
  replace hr : r109 (R07_numF R02_Put) ar (conts os) = some r := hr
  unfold r109 at hr
  generalize hc : conts os = C at hr
  replace hr := dV.elim hr; obtain ⟨v0, l1, y0, rfl, e0, hr⟩ := hr; obtain rfl := asI_eq _ _ _ e0
  replace hr := dV.elim hr; obtain ⟨v1, l2, y1, rfl, e1, hr⟩ := hr; obtain rfl := asI_eq _ _ _ e1
  replace hr := dFin hr; obtain ⟨rfl, rfl, x, h, rfl⟩ := hr
  obtain rfl := kinds_nil hc
  exact ⟨_, rfl, leads109 R02_Put hS _ _ x h⟩
def R07_num : Int → Int → Option (List UInt8) := R07_numF R02_Put
theorem lift109 : SumOK Try.prog 109 (s109 R07_num) := ok109 R02_Put (SumsOK.of_tab ⟨lift67, trivial⟩)
def R07_PutF (R03_Of : (List UInt8) → Option Int) (R03_Set : (List UInt8) → Int → Int → Int → Option (List UInt8)) (R05_Pseudo : api_Addr → api_Addr → Int → Int → Option (List UInt8)) (R07_Right : tcp_Head → Option Bool) (R07_num : Int → Int → Option (List UInt8)) (ha0 : tcp_Head) (src : api_Addr) (dst : api_Addr) (payload : List UInt8) : Option ((List UInt8) × Int) :=
  let t := wI .i64 (20 + (ha0.Options.length : Int))
  (R05_Pseudo src dst 6 (wI .i64 (t + (payload.length : Int)))).bind fun p =>
  (R07_Right ha0).bind fun xr =>
  cond (!xr)
    (
    some (([], 1)))
    (
    cond (p == [])
      (
      some (([], 1)))
      (
      let t1 := decide ((payload.length : Int) > (wI .i64 (65535 - t)))
      cond (t1)
        (
        some (([], 5)))
        (
        (R07_num ha0.SPort 2).bind fun n =>
        (R07_num ha0.DPort 2).bind fun n1 =>
        oreq (decide (n.length + n1.length < 2 ^ 63)) <|
        (R07_num (wI .i64 ha0.Seq) 4).bind fun n2 =>
        oreq (decide ((n ++ n1).length + n2.length < 2 ^ 63)) <|
        (R07_num (wI .i64 ha0.Ack) 4).bind fun n3 =>
        oreq (decide (((n ++ n1) ++ n2).length + n3.length < 2 ^ 63)) <|
        (R07_num (wI .i64 (4 * t)) 1).bind fun n4 =>
        oreq (decide ((((n ++ n1) ++ n2) ++ n3).length + n4.length < 2 ^ 63)) <|
        (R07_num ha0.Flags 1).bind fun n5 =>
        oreq (decide (((((n ++ n1) ++ n2) ++ n3) ++ n4).length + n5.length < 2 ^ 63)) <|
        (R07_num ha0.Window 2).bind fun n6 =>
        oreq (decide ((((((n ++ n1) ++ n2) ++ n3) ++ n4) ++ n5).length + n6.length < 2 ^ 63)) <|
        let t2 := (((((n ++ n1) ++ n2) ++ n3) ++ n4) ++ n5) ++ n6
        (R07_num 0 2).bind fun n7 =>
        oreq (decide (t2.length + n7.length < 2 ^ 63)) <|
        (R07_num ha0.Urgent 2).bind fun n8 =>
        oreq (decide ((t2 ++ n7).length + n8.length < 2 ^ 63)) <|
        oreq (decide (((t2 ++ n7) ++ n8).length + ha0.Options.length < 2 ^ 63)) <|
        oreq (decide ((((t2 ++ n7) ++ n8) ++ ha0.Options).length + payload.length < 2 ^ 63)) <|
        let t3 := (((t2 ++ n7) ++ n8) ++ ha0.Options) ++ payload
        oreq (decide (p.length + t3.length < 2 ^ 63)) <|
        (R03_Of (p ++ t3)).bind fun xo =>
        (R03_Set t3 16 2 (wI .u64 xo)).bind fun s =>
        some ((s, 0)))))
def rx50 (x : (List UInt8) × Int) : SRes := ⟨.tuple ⟨[.string ⟨⟨x.1⟩⟩, .int .i64 x.2]⟩, [], []⟩
def r50 (g : tcp_Head → api_Addr → api_Addr → (List UInt8) → Option ((List UInt8) × Int)) : Dec := dV uvtcp_Head fun (y0 : tcp_Head) => dV uvapi_Addr fun (y1 : api_Addr) => dV uvapi_Addr fun (y2 : api_Addr) => dV asS fun (y3 : List UInt8) => dEnd (ofG (g y0 y1 y2 y3) rx50)
theorem r50_c {g : tcp_Head → api_Addr → api_Addr → (List UInt8) → Option ((List UInt8) × Int)} {y0 : tcp_Head} {y1 : api_Addr} {y2 : api_Addr} {y3 : List UInt8} {x : (List UInt8) × Int} (hx : g y0 y1 y2 y3 = some x) : r50 g [.agg ⟨[.int .i64 y0.SPort, .int .i64 y0.DPort, .int .u32 y0.Seq, .int .u32 y0.Ack, .int .i64 y0.Flags, .int .i64 y0.Window, .int .i64 y0.Urgent, .string ⟨⟨y0.Options⟩⟩]⟩, .agg ⟨[.bool y1.V6, .int .u64 y1.Hi, .int .u64 y1.Lo]⟩, .agg ⟨[.bool y2.V6, .int .u64 y2.Hi, .int .u64 y2.Lo]⟩, .string ⟨⟨y3⟩⟩] [] = some (rx50 x) := (dV_eq (uvtcp_Head_c _)).trans ((dV_eq (uvapi_Addr_c _)).trans ((dV_eq (uvapi_Addr_c _)).trans ((dV_eq (asS_c)).trans (ofG_eq hx))))
def s50 (g : tcp_Head → api_Addr → api_Addr → (List UInt8) → Option ((List UInt8) × Int)) : Summ := ⟨[.v, .v, .v, .v], r50 g⟩
theorem r50_eq {g : tcp_Head → api_Addr → api_Addr → (List UInt8) → Option ((List UInt8) × Int)} {y0 : tcp_Head} {y1 : api_Addr} {y2 : api_Addr} {y3 : List UInt8} {x : (List UInt8) × Int} (hx : g y0 y1 y2 y3 = some x) : (s50 g).run [.agg ⟨[.int .i64 y0.SPort, .int .i64 y0.DPort, .int .u32 y0.Seq, .int .u32 y0.Ack, .int .i64 y0.Flags, .int .i64 y0.Window, .int .i64 y0.Urgent, .string ⟨⟨y0.Options⟩⟩]⟩, .agg ⟨[.bool y1.V6, .int .u64 y1.Hi, .int .u64 y1.Lo]⟩, .agg ⟨[.bool y2.V6, .int .u64 y2.Hi, .int .u64 y2.Lo]⟩, .string ⟨⟨y3⟩⟩] [] = some (rx50 x) := r50_c hx
abbrev sums50 (R03_Of : (List UInt8) → Option Int) (R03_Set : (List UInt8) → Int → Int → Int → Option (List UInt8)) (R05_Pseudo : api_Addr → api_Addr → Int → Int → Option (List UInt8)) (R07_Right : tcp_Head → Option Bool) (R07_num : Int → Int → Option (List UInt8)) : List (Nat × Summ) := [(68, s68 R03_Of), (69, s69 R03_Set), (28, s28 R05_Pseudo), (108, s108 R07_Right), (109, s109 R07_num)]
theorem leads50 (R03_Of : (List UInt8) → Option Int) (R03_Set : (List UInt8) → Int → Int → Int → Option (List UInt8)) (R05_Pseudo : api_Addr → api_Addr → Int → Int → Option (List UInt8)) (R07_Right : tcp_Head → Option Bool) (R07_num : Int → Int → Option (List UInt8)) (hS : SumsOK Try.prog (aget (sums50 R03_Of R03_Set R05_Pseudo R07_Right R07_num))) (ha0 : tcp_Head) (src : api_Addr) (dst : api_Addr) (payload : List UInt8) (res : (List UInt8) × Int) (h : R07_PutF R03_Of R03_Set R05_Pseudo R07_Right R07_num ha0 src dst payload = some res) :
    Leads Try.prog 50 0 ⟨⟨50, 83, [(0, .agg ⟨[.int .i64 ha0.SPort, .int .i64 ha0.DPort, .int .u32 ha0.Seq, .int .u32 ha0.Ack, .int .i64 ha0.Flags, .int .i64 ha0.Window, .int .i64 ha0.Urgent, .string ⟨⟨ha0.Options⟩⟩]⟩), (1, .agg ⟨[.bool src.V6, .int .u64 src.Hi, .int .u64 src.Lo]⟩), (2, .agg ⟨[.bool dst.V6, .int .u64 dst.Hi, .int .u64 dst.Lo]⟩), (3, .string ⟨⟨payload⟩⟩)], [.code k50_21], [], false, none⟩, [], [], 0⟩ (fun v H _ => Res 0 (rx50 res) v H) := by
  unfold R07_PutF at h
  refine ev_ok tab_ok hS true 3000 ?_
  conv => whnf
  let t : Int := wI .i64 (20 + (ha0.Options.length : Int))
  replace h := obind.elim h; obtain ⟨p, hy, h⟩ := h
  refine sumK.q rfl rfl (r28_eq hy) rfl rfl rfl ?_
  conv => whnf
  replace h := obind.elim h; obtain ⟨xr, hy, h⟩ := h
  refine sumK.q rfl rfl (r108_eq hy) rfl rfl rfl ?_
  conv => whnf
  refine br.h h ?_ ?_ ?_
  · rfl
  · clear h; intro hb h; conv => whnf
    all_goals (cases h; exact Res.z rfl rfl rfl)
  clear h; intro hb h; conv => whnf
  refine br.h h ?_ ?_ ?_
  · rfl
  · clear h; intro hb h; conv => whnf
    all_goals (cases h; exact Res.z rfl rfl rfl)
  clear h; intro hb h; conv => whnf
  let t1 : Bool := decide ((payload.length : Int) > (wI .i64 (65535 - t)))
  refine br.h h ?_ ?_ ?_
  · rfl
  · clear h; intro hb h; conv => whnf
    all_goals (cases h; exact Res.z rfl rfl rfl)
  clear h; intro hb h; conv => whnf
  replace h := obind.elim h; obtain ⟨n, hy, h⟩ := h
  refine sumK.q rfl rfl (r109_eq hy) rfl rfl rfl ?_
  conv => whnf
  replace h := obind.elim h; obtain ⟨n1, hy, h⟩ := h
  refine sumK.q rfl rfl (r109_eq hy) rfl rfl rfl ?_
  conv => whnf
  replace h := oreq.elim h; obtain ⟨hb, h⟩ := h
  first | (refine req.intro hb ?_; conv => whnf) | skip
  replace h := obind.elim h; obtain ⟨n2, hy, h⟩ := h
  refine sumK.q rfl rfl (r109_eq hy) rfl rfl rfl ?_
  conv => whnf
  replace h := oreq.elim h; obtain ⟨hb, h⟩ := h
  first | (refine req.intro hb ?_; conv => whnf) | skip
  replace h := obind.elim h; obtain ⟨n3, hy, h⟩ := h
  refine sumK.q rfl rfl (r109_eq hy) rfl rfl rfl ?_
  conv => whnf
  replace h := oreq.elim h; obtain ⟨hb, h⟩ := h
  first | (refine req.intro hb ?_; conv => whnf) | skip
  replace h := obind.elim h; obtain ⟨n4, hy, h⟩ := h
  refine sumK.q rfl rfl (r109_eq hy) rfl rfl rfl ?_
  conv => whnf
  replace h := oreq.elim h; obtain ⟨hb, h⟩ := h
  first | (refine req.intro hb ?_; conv => whnf) | skip
  replace h := obind.elim h; obtain ⟨n5, hy, h⟩ := h
  refine sumK.q rfl rfl (r109_eq hy) rfl rfl rfl ?_
  conv => whnf
  replace h := oreq.elim h; obtain ⟨hb, h⟩ := h
  first | (refine req.intro hb ?_; conv => whnf) | skip
  replace h := obind.elim h; obtain ⟨n6, hy, h⟩ := h
  refine sumK.q rfl rfl (r109_eq hy) rfl rfl rfl ?_
  conv => whnf
  replace h := oreq.elim h; obtain ⟨hb, h⟩ := h
  first | (refine req.intro hb ?_; conv => whnf) | skip
  let t2 : List UInt8 := (((((n ++ n1) ++ n2) ++ n3) ++ n4) ++ n5) ++ n6
  replace h := obind.elim h; obtain ⟨n7, hy, h⟩ := h
  refine sumK.q rfl rfl (r109_eq hy) rfl rfl rfl ?_
  conv => whnf
  replace h := oreq.elim h; obtain ⟨hb, h⟩ := h
  first | (refine req.intro hb ?_; conv => whnf) | skip
  replace h := obind.elim h; obtain ⟨n8, hy, h⟩ := h
  refine sumK.q rfl rfl (r109_eq hy) rfl rfl rfl ?_
  conv => whnf
  replace h := oreq.elim h; obtain ⟨hb, h⟩ := h
  first | (refine req.intro hb ?_; conv => whnf) | skip
  replace h := oreq.elim h; obtain ⟨hb, h⟩ := h
  first | (refine req.intro hb ?_; conv => whnf) | skip
  replace h := oreq.elim h; obtain ⟨hb, h⟩ := h
  first | (refine req.intro hb ?_; conv => whnf) | skip
  let t3 : List UInt8 := (((t2 ++ n7) ++ n8) ++ ha0.Options) ++ payload
  replace h := oreq.elim h; obtain ⟨hb, h⟩ := h
  first | (refine req.intro hb ?_; conv => whnf) | skip
  replace h := obind.elim h; obtain ⟨xo, hy, h⟩ := h
  refine sumK.q rfl rfl (r68_eq hy) rfl rfl rfl ?_
  conv => whnf
  replace h := obind.elim h; obtain ⟨s, hy, h⟩ := h
  refine sumK.q rfl rfl (r69_eq hy) rfl rfl rfl ?_
  conv => whnf
  all_goals (cases h; exact Res.z rfl rfl rfl)
theorem ok50 (R03_Of : (List UInt8) → Option Int) (R03_Set : (List UInt8) → Int → Int → Int → Option (List UInt8)) (R05_Pseudo : api_Addr → api_Addr → Int → Int → Option (List UInt8)) (R07_Right : tcp_Head → Option Bool) (R07_num : Int → Int → Option (List UInt8)) (hS : SumsOK Try.prog (aget (sums50 R03_Of R03_Set R05_Pseudo R07_Right R07_num))) : SumOK Try.prog 50 (s50 (R07_PutF R03_Of R03_Set R05_Pseudo R07_Right R07_num)) := by
  refine SumOK.of_leads tab_ok (fun ar os r ha hr => ?_) ⟨Try.f50, rfl, by decide, rfl⟩
  replace hr : r50 (R07_PutF R03_Of R03_Set R05_Pseudo R07_Right R07_num) ar (conts os) = some r := hr
  unfold r50 at hr
  generalize hc : conts os = C at hr
  replace hr := dV.elim hr; obtain ⟨v0, l1, y0, rfl, e0, hr⟩ := hr; obtain rfl := uvtcp_Head_eq _ _ e0
  replace hr := dV.elim hr; obtain ⟨v1, l2, y1, rfl, e1, hr⟩ := hr; obtain rfl := uvapi_Addr_eq _ _ e1
  replace hr := dV.elim hr; obtain ⟨v2, l3, y2, rfl, e2, hr⟩ := hr; obtain rfl := uvapi_Addr_eq _ _ e2
  replace hr := dV.elim hr; obtain ⟨v3, l4, y3, rfl, e3, hr⟩ := hr; obtain rfl := asS_eq _ _ e3
  replace hr := dFin hr; obtain ⟨rfl, rfl, x, h, rfl⟩ := hr
  obtain rfl := kinds_nil hc
  exact ⟨_, rfl, leads50 R03_Of R03_Set R05_Pseudo R07_Right R07_num hS _ _ _ _ x h⟩
def R07_Put : tcp_Head → api_Addr → api_Addr → (List UInt8) → Option ((List UInt8) × Int) := R07_PutF R03_Of R03_Set R05_Pseudo R07_Right R07_num
theorem lift50 : SumOK Try.prog 50 (s50 R07_Put) := ok50 R03_Of R03_Set R05_Pseudo R07_Right R07_num (SumsOK.of_tab ⟨lift68, lift69, lift28, lift108, lift109, trivial⟩)
end Go.Vm.Code
namespace Go.Vm.Code
open Go Go.Vm
def H7 (h : tcp_Head) : Bool := inR h.SPort 65535 && inR h.DPort 65535 && inR h.Window 65535 && inR h.Urgent 65535 && inR h.Flags 255 && decide (h.Options.length % 4 = 0) && decide (h.Options.length ≤ 40)
theorem H7_inv {h : tcp_Head} (hh : H7 h = true) : (0 ≤ h.SPort ∧ h.SPort ≤ 65535) ∧ (0 ≤ h.DPort ∧ h.DPort ≤ 65535) ∧ (0 ≤ h.Window ∧ h.Window ≤ 65535) ∧ (0 ≤ h.Urgent ∧ h.Urgent ≤ 65535) ∧ (0 ≤ h.Flags ∧ h.Flags ≤ 255) ∧ h.Options.length % 4 = 0 ∧ h.Options.length ≤ 40 := by
  unfold H7 at hh
  simp only [Bool.and_eq_true, inR_iff, decide_eq_true_eq] at hh
  obtain ⟨⟨⟨⟨⟨⟨a, b⟩, c⟩, d⟩, e⟩, f⟩, g⟩ := hh
  exact ⟨a, b, c, d, e, f, g⟩
def W7 (h : tcp_Head) : Prop := (0 ≤ h.Seq ∧ h.Seq < 4294967296) ∧ 0 ≤ h.Ack ∧ h.Ack < 4294967296
def ha7 (h : tcp_Head) : List UInt8 := be h.SPort.toNat 2 ++ be h.DPort.toNat 2 ++ be h.Seq.toNat 4 ++ be h.Ack.toNat 4 ++ be (4 * (20 + h.Options.length)) 1 ++ be h.Flags.toNat 1 ++ be h.Window.toNat 2
def hc7 (h : tcp_Head) (c : Nat) : List UInt8 := ha7 h ++ (be c 2 ++ (be h.Urgent.toNat 2 ++ h.Options))
theorem ha7_len (h : tcp_Head) : (ha7 h).length = 16 := by simp [ha7]
theorem hc7_len (h : tcp_Head) (c : Nat) : (hc7 h c).length = 20 + h.Options.length := by simp [hc7, ha7_len]; omega
theorem hc7_app (h : tcp_Head) (c : Nat) (l : List UInt8) : hc7 h c ++ l = ha7 h ++ (be c 2 ++ (be h.Urgent.toNat 2 ++ (h.Options ++ l))) := by simp only [hc7, List.append_assoc]
def ck7 (p : List UInt8) (h : tcp_Head) (l : List UInt8) : Nat := ckN (wsum (p ++ (hc7 h 0 ++ l)))
def put7 (h : tcp_Head) (src dst : api_Addr) (l : List UInt8) : List UInt8 × Int :=
  if H7 h = false then ([], 1) else if pseu src dst 6 (20 + h.Options.length + l.length) = [] then ([], 1) else if 65535 - (20 + (h.Options.length : Int)) < l.length then ([], 5) else
    (hc7 h (ck7 (pseu src dst 6 (20 + h.Options.length + l.length)) h l) ++ l, 0)
theorem hd7_eq (h : tcp_Head) : putS h.SPort 2 ++ putS h.DPort 2 ++ putS h.Seq 4 ++ putS h.Ack 4 ++ putS (4 * (20 + (h.Options.length : Int))) 1 ++ putS h.Flags 1 ++ putS h.Window 2 ++ putS 0 2 ++ putS h.Urgent 2 ++ h.Options = hc7 h 0 := by
  have p4 : ∀ n : Int, putS n 4 = be n.toNat 4 := fun n => putS_be (k := 4) (by omega)
  have p2 : ∀ n : Int, putS n 2 = be n.toNat 2 := fun n => putS_be (k := 2) (by omega)
  have p1 : ∀ n : Int, putS n 1 = be n.toNat 1 := fun n => putS_be (k := 1) (by omega)
  simp only [p4, p2, p1, show (4 * (20 + (h.Options.length : Int))).toNat = 4 * (20 + h.Options.length) by omega, show (0 : Int).toNat = 0 from rfl]
  simp only [hc7, ha7, List.append_assoc]
theorem put7_rfin {p t : List UInt8} {A B : List UInt8} (ht : t = A ++ (be 0 2 ++ B)) (hA : A.length = 16) (hl : p.length < 2 ^ 30) (hl2 : t.length < 2 ^ 30) : ((R03_Of (p ++ t)).bind fun xo => (R03_Set t 16 2 (wI .u64 xo)).bind fun s => some (s, (0 : Int))) = some (A ++ (be (ckN (wsum (p ++ t))) 2 ++ B), 0) := by
  have n := norm_le (wsum (p ++ t))
  rw [R03_Of_eq (by rw [List.length_append]; omega), Option.bind_some, wU64 (by omega) (by omega), R03_Set_eq (by omega) (by omega) (by omega), Option.bind_some]
  have := setS_mid (A := A) (B := B) (p := 16) (c := 65535 - ((norm (wsum (p ++ t)) : Nat) : Int)) hA
  rw [← ht] at this
  rw [show ((16 : Nat) : Int) = 16 from rfl] at this
  rw [this]
  unfold ckN
  rw [show (65535 - ((norm (wsum (p ++ t)) : Nat) : Int)).toNat = 65535 - norm (wsum (p ++ t)) by omega]
theorem in7_eq (n m : Int) : R07_in n m = some (inR n m) := by
  unfold R07_in R07_inF inR
  by_cases h : 0 ≤ n
  · rw [cond_p (by omega)]; simp [h]
  · rw [cond_n (by omega)]; simp [h]
theorem right7_eq (h : tcp_Head) : R07_Right h = some (H7 h) := by
  unfold R07_Right R07_RightF H7
  simp only [in7_eq, Option.bind_some, opt_mod, opt_le]
  cases inR h.SPort 65535 <;> cases inR h.DPort 65535 <;> cases inR h.Window 65535 <;> cases inR h.Urgent 65535 <;> cases inR h.Flags 255 <;> cases decide (h.Options.length % 4 = 0) <;> cases decide (h.Options.length ≤ 40) <;> rfl
theorem num7_eq (n k : Int) : R07_num n k = some (putS (wI .u64 n) k) := by
  unfold R07_num R07_numF
  rw [R02_Put_eq (wU64_rng n).1 (wU64_rng n).2]; rfl
theorem r7put_eq {h : tcp_Head} {src dst : api_Addr} {l : List UInt8} (hw : W7 h) (h1 : A4 src) (h2 : A4 dst) (hl : l.length < 2 ^ 20) (ho : h.Options.length < 2 ^ 20) : R07_Put h src dst l = some (put7 h src dst l) := by
  unfold R07_Put R07_PutF put7
  simp only []
  rw [wI64 (n := 20 + (h.Options.length : Int)) (by omega) (by omega), wI64 (n := 20 + (h.Options.length : Int) + l.length) (by omega) (by omega), pseudo5_eq h1 h2 (by omega) (by omega), Option.bind_some, right7_eq, Option.bind_some]
  have hp := pseu_len src dst 6 (20 + (h.Options.length : Int) + l.length)
  generalize pseu src dst 6 (20 + (h.Options.length : Int) + l.length) = p at *
  cases hh : H7 h
  · rfl
  rw [Bool.not_true, cond_false, if_neg (by decide)]
  by_cases e3 : p = []
  · subst e3; rfl
  rw [show (p == []) = false by simpa using e3, cond_false, if_neg e3, wI64 (n := 65535 - (20 + (h.Options.length : Int))) (by omega) (by omega)]
  by_cases h5 : (l.length : Int) > 65535 - (20 + (h.Options.length : Int))
  · rw [cond_p h5, if_pos (by omega)]
  rw [cond_n h5, if_neg (by omega)]
  obtain ⟨q1, q2, q3, q4, q5, q6, q7⟩ := H7_inv hh
  obtain ⟨w1, w2⟩ := hw
  simp only [num7_eq, Option.bind_some]
  rw [wI64 (n := h.Seq) (by omega) (by omega), wI64 (n := h.Ack) (by omega) (by omega), wI64 (n := 4 * (20 + (h.Options.length : Int))) (by omega) (by omega), wU64 q1.1 (by omega), wU64 q2.1 (by omega), wU64 w1.1 (by omega), wU64 w2.1 (by omega), wU64 (n := 4 * (20 + (h.Options.length : Int))) (by omega) (by omega), wU64 q5.1 (by omega), wU64 q3.1 (by omega), wU64 q4.1 (by omega), show wI .u64 0 = 0 from rfl]
  have hd := hd7_eq h
  have a1 := putS_len h.SPort 2
  have a2 := putS_len h.DPort 2
  have a3 := putS_len h.Seq 4
  have a4 := putS_len h.Ack 4
  have a5 := putS_len (4 * (20 + (h.Options.length : Int))) 1
  have a6 := putS_len h.Flags 1
  have a7 := putS_len h.Window 2
  have a8 := putS_len 0 2
  have a9 := putS_len h.Urgent 2
  have hlen := hc7_len h 0
  iterate 10 rw [oreq_p (by first | omega | (simp only [List.length_append]; omega))]
  rw [hd, oreq_p (by simp only [List.length_append]; omega)]
  have := put7_rfin (p := p) (t := hc7 h 0 ++ l) (hc7_app h 0 l) (ha7_len h) (by omega) (by simp only [List.length_append]; omega)
  rw [this]
  unfold ck7
  rw [hc7_app h (ckN _) l]
def b1 (s : List UInt8) (i : Nat) : Nat := valL ((s.drop i).take 1)
end Go.Vm.Code
namespace Go.Vm.Code
open Go Go.Vm Go.Proofs
set_option maxRecDepth 100000
set_option maxHeartbeats 4000000
set_option linter.unusedVariables false
def R08_inF (n : Int) : Option Bool :=
  cond (decide (n ≥ 0))
    (
    some (decide (n ≤ 65535)))
    (
    some (false))
def rx66 (x : Bool) : SRes := ⟨.bool x, [], []⟩
def r66 (g : Int → Option Bool) : Dec := dV (asI .i64) fun (y0 : Int) => dEnd (ofG (g y0) rx66)
theorem r66_c {g : Int → Option Bool} {y0 : Int} {x : Bool} (hx : g y0 = some x) : r66 g [.int .i64 y0] [] = some (rx66 x) := (dV_eq (asI_c _)).trans (ofG_eq hx)
def s66 (g : Int → Option Bool) : Summ := ⟨[.v], r66 g⟩
theorem r66_eq {g : Int → Option Bool} {y0 : Int} {x : Bool} (hx : g y0 = some x) : (s66 g).run [.int .i64 y0] [] = some (rx66 x) := r66_c hx
abbrev sums66 : List (Nat × Summ) := []
theorem leads66 (hS : SumsOK Try.prog (aget (sums66))) (n : Int) (res : Bool) (h : R08_inF n = some res) :
    Leads Try.prog 66 0 ⟨⟨66, 9, [(0, .int .i64 n)], [.code k66_3], [], false, none⟩, [], [], 0⟩ (fun v H _ => Res 0 (rx66 res) v H) := by
  unfold R08_inF at h
  refine ev_ok tab_ok hS true 3000 ?_
  conv => whnf
  refine br.h h ?_ ?_ ?_
  · rfl
  · clear h; intro hb h; conv => whnf
    all_goals (cases h; exact Res.z rfl rfl rfl)
  clear h; intro hb h; conv => whnf
  all_goals (cases h; exact Res.z rfl rfl rfl)
theorem ok66 (hS : SumsOK Try.prog (aget (sums66))) : SumOK Try.prog 66 (s66 (R08_inF)) := by
  refine SumOK.of_leads tab_ok (fun ar os r ha hr => ?_) ⟨Try.f66, rfl, by decide, rfl⟩
  replace hr : r66 (R08_inF) ar (conts os) = some r := hr
  unfold r66 at hr
  generalize hc : conts os = C at hr
  replace hr := dV.elim hr; obtain ⟨v0, l1, y0, rfl, e0, hr⟩ := hr; obtain rfl := asI_eq _ _ _ e0
  replace hr := dFin hr; obtain ⟨rfl, rfl, x, h, rfl⟩ := hr
  obtain rfl := kinds_nil hc
  exact ⟨_, rfl, leads66 hS _ x h⟩
def R08_in : Int → Option Bool := R08_inF
theorem lift66 : SumOK Try.prog 66 (s66 R08_in) := ok66 (SumsOK.of_tab trivial)
def R08_PutF (R02_Put : Int → Int → Option (List UInt8)) (R03_Of : (List UInt8) → Option Int) (R03_Set : (List UInt8) → Int → Int → Int → Option (List UInt8)) (R05_Pseudo : api_Addr → api_Addr → Int → Int → Option (List UInt8)) (R08_in : Int → Option Bool) (ha0 : udp_Head) (src : api_Addr) (dst : api_Addr) (payload : List UInt8) : Option ((List UInt8) × Int) :=
  (R05_Pseudo src dst 17 (wI .i64 (8 + (payload.length : Int)))).bind fun p =>
  (R08_in ha0.SPort).bind fun i =>
  cond (!i)
    (
    some (([], 1)))
    (
    (R08_in ha0.DPort).bind fun i1 =>
    cond (!i1)
      (
      some (([], 1)))
      (
      cond (p == [])
        (
        some (([], 1)))
        (
        let t := decide ((wI .i64 (8 + (payload.length : Int))) > 65535)
        cond (t)
          (
          some (([], 5)))
          (
          (R02_Put (wI .u64 ha0.SPort) 2).bind fun p1 =>
          (R02_Put (wI .u64 ha0.DPort) 2).bind fun p2 =>
          oreq (decide (p1.length + p2.length < 2 ^ 63)) <|
          let t1 := wI .u64 (wI .i64 (8 + (payload.length : Int)))
          (R02_Put t1 2).bind fun p3 =>
          oreq (decide ((p1 ++ p2).length + p3.length < 2 ^ 63)) <|
          oreq (decide (((p1 ++ p2) ++ p3).length + 2 < 2 ^ 63)) <|
          oreq (decide ((((p1 ++ p2) ++ p3) ++ [0, 0]).length + payload.length < 2 ^ 63)) <|
          let t2 := (((p1 ++ p2) ++ p3) ++ [0, 0]) ++ payload
          oreq (decide (p.length + t2.length < 2 ^ 63)) <|
          (R03_Of (p ++ t2)).bind fun xo =>
          cond (xo == 0)
            (
            (R03_Set t2 6 2 65535).bind fun s =>
            some ((s, 0)))
            (
            (R03_Set t2 6 2 (wI .u64 xo)).bind fun s1 =>
            some ((s1, 0)))))))
def rx17 (x : (List UInt8) × Int) : SRes := ⟨.tuple ⟨[.string ⟨⟨x.1⟩⟩, .int .i64 x.2]⟩, [], []⟩
def r17 (g : udp_Head → api_Addr → api_Addr → (List UInt8) → Option ((List UInt8) × Int)) : Dec := dV uvudp_Head fun (y0 : udp_Head) => dV uvapi_Addr fun (y1 : api_Addr) => dV uvapi_Addr fun (y2 : api_Addr) => dV asS fun (y3 : List UInt8) => dEnd (ofG (g y0 y1 y2 y3) rx17)
theorem r17_c {g : udp_Head → api_Addr → api_Addr → (List UInt8) → Option ((List UInt8) × Int)} {y0 : udp_Head} {y1 : api_Addr} {y2 : api_Addr} {y3 : List UInt8} {x : (List UInt8) × Int} (hx : g y0 y1 y2 y3 = some x) : r17 g [.agg ⟨[.int .i64 y0.SPort, .int .i64 y0.DPort]⟩, .agg ⟨[.bool y1.V6, .int .u64 y1.Hi, .int .u64 y1.Lo]⟩, .agg ⟨[.bool y2.V6, .int .u64 y2.Hi, .int .u64 y2.Lo]⟩, .string ⟨⟨y3⟩⟩] [] = some (rx17 x) := (dV_eq (uvudp_Head_c _)).trans ((dV_eq (uvapi_Addr_c _)).trans ((dV_eq (uvapi_Addr_c _)).trans ((dV_eq (asS_c)).trans (ofG_eq hx))))
def s17 (g : udp_Head → api_Addr → api_Addr → (List UInt8) → Option ((List UInt8) × Int)) : Summ := ⟨[.v, .v, .v, .v], r17 g⟩
theorem r17_eq {g : udp_Head → api_Addr → api_Addr → (List UInt8) → Option ((List UInt8) × Int)} {y0 : udp_Head} {y1 : api_Addr} {y2 : api_Addr} {y3 : List UInt8} {x : (List UInt8) × Int} (hx : g y0 y1 y2 y3 = some x) : (s17 g).run [.agg ⟨[.int .i64 y0.SPort, .int .i64 y0.DPort]⟩, .agg ⟨[.bool y1.V6, .int .u64 y1.Hi, .int .u64 y1.Lo]⟩, .agg ⟨[.bool y2.V6, .int .u64 y2.Hi, .int .u64 y2.Lo]⟩, .string ⟨⟨y3⟩⟩] [] = some (rx17 x) := r17_c hx
abbrev sums17 (R02_Put : Int → Int → Option (List UInt8)) (R03_Of : (List UInt8) → Option Int) (R03_Set : (List UInt8) → Int → Int → Int → Option (List UInt8)) (R05_Pseudo : api_Addr → api_Addr → Int → Int → Option (List UInt8)) (R08_in : Int → Option Bool) : List (Nat × Summ) := [(67, s67 R02_Put), (68, s68 R03_Of), (69, s69 R03_Set), (28, s28 R05_Pseudo), (66, s66 R08_in)]
theorem leads17 (R02_Put : Int → Int → Option (List UInt8)) (R03_Of : (List UInt8) → Option Int) (R03_Set : (List UInt8) → Int → Int → Int → Option (List UInt8)) (R05_Pseudo : api_Addr → api_Addr → Int → Int → Option (List UInt8)) (R08_in : Int → Option Bool) (hS : SumsOK Try.prog (aget (sums17 R02_Put R03_Of R03_Set R05_Pseudo R08_in))) (ha0 : udp_Head) (src : api_Addr) (dst : api_Addr) (payload : List UInt8) (res : (List UInt8) × Int) (h : R08_PutF R02_Put R03_Of R03_Set R05_Pseudo R08_in ha0 src dst payload = some res) :
    Leads Try.prog 17 0 ⟨⟨17, 63, [(0, .agg ⟨[.int .i64 ha0.SPort, .int .i64 ha0.DPort]⟩), (1, .agg ⟨[.bool src.V6, .int .u64 src.Hi, .int .u64 src.Lo]⟩), (2, .agg ⟨[.bool dst.V6, .int .u64 dst.Hi, .int .u64 dst.Lo]⟩), (3, .string ⟨⟨payload⟩⟩)], [.code k17_28], [], false, none⟩, [], [], 0⟩ (fun v H _ => Res 0 (rx17 res) v H) := by
  unfold R08_PutF at h
  refine ev_ok tab_ok hS true 3000 ?_
  conv => whnf
  replace h := obind.elim h; obtain ⟨p, hy, h⟩ := h
  refine sumK.q rfl rfl (r28_eq hy) rfl rfl rfl ?_
  conv => whnf
  replace h := obind.elim h; obtain ⟨i, hy, h⟩ := h
  refine sumK.q rfl rfl (r66_eq hy) rfl rfl rfl ?_
  conv => whnf
  refine br.h h ?_ ?_ ?_
  · rfl
  · clear h; intro hb h; conv => whnf
    all_goals (cases h; exact Res.z rfl rfl rfl)
  clear h; intro hb h; conv => whnf
  replace h := obind.elim h; obtain ⟨i1, hy, h⟩ := h
  refine sumK.q rfl rfl (r66_eq hy) rfl rfl rfl ?_
  conv => whnf
  refine br.h h ?_ ?_ ?_
  · rfl
  · clear h; intro hb h; conv => whnf
    all_goals (cases h; exact Res.z rfl rfl rfl)
  clear h; intro hb h; conv => whnf
  refine br.h h ?_ ?_ ?_
  · rfl
  · clear h; intro hb h; conv => whnf
    all_goals (cases h; exact Res.z rfl rfl rfl)
  clear h; intro hb h; conv => whnf
  let t : Bool := decide ((wI .i64 (8 + (payload.length : Int))) > 65535)
  refine br.h h ?_ ?_ ?_
  · rfl
  · clear h; intro hb h; conv => whnf
    all_goals (cases h; exact Res.z rfl rfl rfl)
  clear h; intro hb h; conv => whnf
  replace h := obind.elim h; obtain ⟨p1, hy, h⟩ := h
  refine sumK.q rfl rfl (r67_eq hy) rfl rfl rfl ?_
  conv => whnf
  replace h := obind.elim h; obtain ⟨p2, hy, h⟩ := h
  refine sumK.q rfl rfl (r67_eq hy) rfl rfl rfl ?_
  conv => whnf
  replace h := oreq.elim h; obtain ⟨hb, h⟩ := h
  first | (refine req.intro hb ?_; conv => whnf) | skip
  let t1 : Int := wI .u64 (wI .i64 (8 + (payload.length : Int)))
  replace h := obind.elim h; obtain ⟨p3, hy, h⟩ := h
  refine sumK.q rfl rfl (r67_eq hy) rfl rfl rfl ?_
  conv => whnf
  replace h := oreq.elim h; obtain ⟨hb, h⟩ := h
  first | (refine req.intro hb ?_; conv => whnf) | skip
  replace h := oreq.elim h; obtain ⟨hb, h⟩ := h
  first | (refine req.intro hb ?_; conv => whnf) | skip
  replace h := oreq.elim h; obtain ⟨hb, h⟩ := h
  first | (refine req.intro hb ?_; conv => whnf) | skip
  let t2 : List UInt8 := (((p1 ++ p2) ++ p3) ++ [0, 0]) ++ payload
  replace h := oreq.elim h; obtain ⟨hb, h⟩ := h
  first | (refine req.intro hb ?_; conv => whnf) | skip
  replace h := obind.elim h; obtain ⟨xo, hy, h⟩ := h
  refine sumK.q rfl rfl (r68_eq hy) rfl rfl rfl ?_
  conv => whnf
  refine br.h h ?_ ?_ ?_
  · rfl
  · clear h; intro hb h; conv => whnf
    replace h := obind.elim h; obtain ⟨s, hy, h⟩ := h
    refine sumK.q rfl rfl (r69_eq hy) rfl rfl rfl ?_
    conv => whnf
    all_goals (cases h; exact Res.z rfl rfl rfl)
  clear h; intro hb h; conv => whnf
  replace h := obind.elim h; obtain ⟨s1, hy, h⟩ := h
  refine sumK.q rfl rfl (r69_eq hy) rfl rfl rfl ?_
  conv => whnf
  all_goals (cases h; exact Res.z rfl rfl rfl)
theorem ok17 (R02_Put : Int → Int → Option (List UInt8)) (R03_Of : (List UInt8) → Option Int) (R03_Set : (List UInt8) → Int → Int → Int → Option (List UInt8)) (R05_Pseudo : api_Addr → api_Addr → Int → Int → Option (List UInt8)) (R08_in : Int → Option Bool) (hS : SumsOK Try.prog (aget (sums17 R02_Put R03_Of R03_Set R05_Pseudo R08_in))) : SumOK Try.prog 17 (s17 (R08_PutF R02_Put R03_Of R03_Set R05_Pseudo R08_in)) := by
  refine SumOK.of_leads tab_ok (fun ar os r ha hr => ?_) ⟨Try.f17, rfl, by decide, rfl⟩
  replace hr : r17 (R08_PutF R02_Put R03_Of R03_Set R05_Pseudo R08_in) ar (conts os) = some r := hr
  unfold r17 at hr
  generalize hc : conts os = C at hr
  replace hr := dV.elim hr; obtain ⟨v0, l1, y0, rfl, e0, hr⟩ := hr; obtain rfl := uvudp_Head_eq _ _ e0
  replace hr := dV.elim hr; obtain ⟨v1, l2, y1, rfl, e1, hr⟩ := hr; obtain rfl := uvapi_Addr_eq _ _ e1
  replace hr := dV.elim hr; obtain ⟨v2, l3, y2, rfl, e2, hr⟩ := hr; obtain rfl := uvapi_Addr_eq _ _ e2
  replace hr := dV.elim hr; obtain ⟨v3, l4, y3, rfl, e3, hr⟩ := hr; obtain rfl := asS_eq _ _ e3
  replace hr := dFin hr; obtain ⟨rfl, rfl, x, h, rfl⟩ := hr
  obtain rfl := kinds_nil hc
  exact ⟨_, rfl, leads17 R02_Put R03_Of R03_Set R05_Pseudo R08_in hS _ _ _ _ x h⟩
def R08_Put : udp_Head → api_Addr → api_Addr → (List UInt8) → Option ((List UInt8) × Int) := R08_PutF R02_Put R03_Of R03_Set R05_Pseudo R08_in
theorem lift17 : SumOK Try.prog 17 (s17 R08_Put) := ok17 R02_Put R03_Of R03_Set R05_Pseudo R08_in (SumsOK.of_tab ⟨lift67, lift68, lift69, lift28, lift66, trivial⟩)
end Go.Vm.Code
namespace Go.Vm.Code
open Go Go.Vm
def port (n : Int) : Bool := decide (0 ≤ n ∧ n ≤ 65535)
theorem in8_eq (n : Int) : R08_in n = some (port n) := by
  unfold R08_in R08_inF port
  by_cases h : 0 ≤ n
  · rw [cond_p (by omega)]; simp [h]
  · rw [cond_n (by omega)]; simp [h]
theorem port_iff {n : Int} : port n = true ↔ 0 ≤ n ∧ n ≤ 65535 := by unfold port; simp
def u8 (h : udp_Head) (l : List UInt8) : List UInt8 := putS h.SPort 2 ++ putS h.DPort 2 ++ putS (8 + l.length) 2 ++ [0, 0] ++ l
theorem u8_len {h : udp_Head} {l : List UInt8} : (u8 h l).length ≤ 26 + l.length := by
  have l1 := putS_len h.SPort 2
  have l2 := putS_len h.DPort 2
  have l3 := putS_len (8 + l.length) 2
  unfold u8; simp only [List.length_append, List.length_cons, List.length_nil]; omega
def ck8 (p t : List UInt8) : Int := if norm (wsum (p ++ t)) = 65535 then 65535 else 65535 - (norm (wsum (p ++ t)) : Nat)
def put8 (h : udp_Head) (src dst : api_Addr) (l : List UInt8) : List UInt8 × Int :=
  if (port h.SPort && port h.DPort) = false then ([], 1) else if pseu src dst 17 (8 + l.length) = [] then ([], 1) else if 65535 < 8 + l.length then ([], 5) else
    (setS (u8 h l) 6 2 (ck8 (pseu src dst 17 (8 + l.length)) (u8 h l)), 0)
theorem ck8_rset {p t : List UInt8} (hp : p.length ≤ 2 ^ 30) (ht : t.length ≤ 2 ^ 30) : ((R03_Of (p ++ t)).bind fun xo => cond (xo == 0) ((R03_Set t 6 2 65535).bind fun s => some (s, (0 : Int))) ((R03_Set t 6 2 (wI .u64 xo)).bind fun s1 => some (s1, 0))) = some (setS t 6 2 (ck8 p t), 0) := by
  have := norm_le (wsum (p ++ t))
  rw [R03_Of_eq (by simp only [List.length_append]; omega), Option.bind_some]
  unfold ck8
  by_cases h : norm (wsum (p ++ t)) = 65535
  · rw [if_pos h, h]
    show ((R03_Set t 6 2 65535).bind _) = _
    rw [R03_Set_eq (by omega) (by omega) (by omega)]; rfl
  · rw [if_neg h, show ((65535 - ((norm (wsum (p ++ t)) : Nat) : Int)) == 0) = false by simp; omega, cond_false, wU64 (by omega) (by omega), R03_Set_eq (by omega) (by omega) (by omega)]; rfl
theorem u8put_eq {h : udp_Head} {src dst : api_Addr} {l : List UInt8} (h1 : A4 src) (h2 : A4 dst) (hl : l.length < 2 ^ 20) : R08_Put h src dst l = some (put8 h src dst l) := by
  unfold R08_Put R08_PutF put8
  rw [wI64 (n := 8 + (l.length : Int)) (by omega) (by omega), pseudo5_eq h1 h2 (by omega) (by omega), in8_eq, in8_eq]
  have hp := pseu_len src dst 17 (8 + (l.length : Int))
  generalize pseu src dst 17 (8 + (l.length : Int)) = p at *
  simp only [Option.bind_some]
  cases e1 : port h.SPort
  · rfl
  cases e2 : port h.DPort
  · rfl
  simp only [Bool.not_true, cond_false, Bool.and_self]
  by_cases e3 : p = []
  · subst e3; rfl
  rw [show (p == []) = false by simpa using e3, cond_false, if_neg (by decide), if_neg e3]
  by_cases e4 : 8 + (l.length : Int) > 65535
  · rw [cond_p e4, if_pos (by omega)]
  rw [cond_n e4, if_neg (by omega)]
  have p1 := port_iff.1 e1
  have p2 := port_iff.1 e2
  have l1 := putS_len h.SPort 2
  have l2 := putS_len h.DPort 2
  have l3 := putS_len (8 + (l.length : Int)) 2
  have hu := u8_len (h := h) (l := l)
  rw [wU64 p1.1 (by omega), wU64 p2.1 (by omega), wU64 (n := 8 + (l.length : Int)) (by omega) (by omega), R02_Put_eq p1.1 (by omega), R02_Put_eq p2.1 (by omega), R02_Put_eq (n := 8 + (l.length : Int)) (by omega) (by omega)]
  simp only [Option.bind_some]
  have e : putS h.SPort 2 ++ putS h.DPort 2 ++ putS (8 + (l.length : Int)) 2 ++ [0, 0] ++ l = u8 h l := rfl
  rw [oreq_p (by omega), oreq_p (by simp only [List.length_append]; omega), oreq_p (by simp only [List.length_append]; omega), oreq_p (by simp only [List.length_append, List.length_cons, List.length_nil]; omega), e, oreq_p (by omega)]
  exact ck8_rset (by omega) (by omega)
def v2 (s : List UInt8) (p : Nat) : Int := (valL ((s.drop p).take 2) : Nat)
end Go.Vm.Code
namespace Go.Vm.Code
open Go Go.Vm Go.Proofs
set_option maxRecDepth 100000
set_option maxHeartbeats 4000000
set_option linter.unusedVariables false
def R11_PutF (R04_Right : api_Addr → Option Bool) (R05_Put : ipfour_Head → (List UInt8) → Option ((List UInt8) × Int)) (R06_Put : ipsix_Head → (List UInt8) → Option ((List UInt8) × Int)) (t : api_Tuple) (body : List UInt8) : Option ((List UInt8) × Int) :=
  cond (!(t.Src.V6 == t.Dst.V6))
    (
    some (([], 1)))
    (
    (R04_Right t.Src).bind fun xr =>
    cond (!xr)
      (
      some (([], 1)))
      (
      (R04_Right t.Dst).bind fun xr1 =>
      cond (!xr1)
        (
        some (([], 1)))
        (
        cond (t.Proto != 6)
          (
          cond (t.Proto != 17)
            (
            some (([], 1)))
            (
            (R06_Put (ipsix_Head.mk 0 0 t.Proto 64 t.Src t.Dst) body).bind fun p =>
            cond (!t.Src.V6)
              (
              (R05_Put (ipfour_Head.mk 0 0 true 64 t.Proto t.Src t.Dst []) body).bind fun p1 =>
              cond (p1.2 == 0)
                (
                cond (decide ((p1.1.length : Int) > 9000))
                  (
                  some (([], 5)))
                  (
                  some ((p1.1, p1.2))))
                (
                some ((p1.1, p1.2))))
              (
              cond (p.2 == 0)
                (
                cond (decide ((p.1.length : Int) > 9000))
                  (
                  some (([], 5)))
                  (
                  some ((p.1, p.2))))
                (
                some ((p.1, p.2))))))
          (
          (R06_Put (ipsix_Head.mk 0 0 t.Proto 64 t.Src t.Dst) body).bind fun p2 =>
          cond (!t.Src.V6)
            (
            (R05_Put (ipfour_Head.mk 0 0 true 64 t.Proto t.Src t.Dst []) body).bind fun p3 =>
            cond (p3.2 == 0)
              (
              cond (decide ((p3.1.length : Int) > 9000))
                (
                some (([], 5)))
                (
                some ((p3.1, p3.2))))
              (
              some ((p3.1, p3.2))))
            (
            cond (p2.2 == 0)
              (
              cond (decide ((p2.1.length : Int) > 9000))
                (
                some (([], 5)))
                (
                some ((p2.1, p2.2))))
              (
              some ((p2.1, p2.2))))))))
def rx105 (x : (List UInt8) × Int) : SRes := ⟨.tuple ⟨[.string ⟨⟨x.1⟩⟩, .int .i64 x.2]⟩, [], []⟩
def r105 (g : api_Tuple → (List UInt8) → Option ((List UInt8) × Int)) : Dec := dV uvapi_Tuple fun (y0 : api_Tuple) => dV asS fun (y1 : List UInt8) => dEnd (ofG (g y0 y1) rx105)
theorem r105_c {g : api_Tuple → (List UInt8) → Option ((List UInt8) × Int)} {y0 : api_Tuple} {y1 : List UInt8} {x : (List UInt8) × Int} (hx : g y0 y1 = some x) : r105 g [.agg ⟨[.int .i64 y0.Proto, .bool y0.Src.V6, .int .u64 y0.Src.Hi, .int .u64 y0.Src.Lo, .bool y0.Dst.V6, .int .u64 y0.Dst.Hi, .int .u64 y0.Dst.Lo, .int .i64 y0.SPort, .int .i64 y0.DPort]⟩, .string ⟨⟨y1⟩⟩] [] = some (rx105 x) := (dV_eq (uvapi_Tuple_c _)).trans ((dV_eq (asS_c)).trans (ofG_eq hx))
def s105 (g : api_Tuple → (List UInt8) → Option ((List UInt8) × Int)) : Summ := ⟨[.v, .v], r105 g⟩
theorem r105_eq {g : api_Tuple → (List UInt8) → Option ((List UInt8) × Int)} {y0 : api_Tuple} {y1 : List UInt8} {x : (List UInt8) × Int} (hx : g y0 y1 = some x) : (s105 g).run [.agg ⟨[.int .i64 y0.Proto, .bool y0.Src.V6, .int .u64 y0.Src.Hi, .int .u64 y0.Src.Lo, .bool y0.Dst.V6, .int .u64 y0.Dst.Hi, .int .u64 y0.Dst.Lo, .int .i64 y0.SPort, .int .i64 y0.DPort]⟩, .string ⟨⟨y1⟩⟩] [] = some (rx105 x) := r105_c hx
abbrev sums105 (R04_Right : api_Addr → Option Bool) (R05_Put : ipfour_Head → (List UInt8) → Option ((List UInt8) × Int)) (R06_Put : ipsix_Head → (List UInt8) → Option ((List UInt8) × Int)) : List (Nat × Summ) := [(86, s86 R04_Right), (23, s23 R05_Put), (99, s99 R06_Put)]
theorem leads105 (R04_Right : api_Addr → Option Bool) (R05_Put : ipfour_Head → (List UInt8) → Option ((List UInt8) × Int)) (R06_Put : ipsix_Head → (List UInt8) → Option ((List UInt8) × Int)) (hS : SumsOK Try.prog (aget (sums105 R04_Right R05_Put R06_Put))) (t : api_Tuple) (body : List UInt8) (res : (List UInt8) × Int) (h : R11_PutF R04_Right R05_Put R06_Put t body = some res) :
    Leads Try.prog 105 0 ⟨⟨105, 74, [(0, .agg ⟨[.int .i64 t.Proto, .bool t.Src.V6, .int .u64 t.Src.Hi, .int .u64 t.Src.Lo, .bool t.Dst.V6, .int .u64 t.Dst.Hi, .int .u64 t.Dst.Lo, .int .i64 t.SPort, .int .i64 t.DPort]⟩), (1, .string ⟨⟨body⟩⟩)], [.code k105_22], [], false, none⟩, [], [], 0⟩ (fun v H _ => Res 0 (rx105 res) v H) := by
  unfold R11_PutF at h
  refine ev_ok tab_ok hS true 3000 ?_
  conv => whnf
  refine br.h h ?_ ?_ ?_
  · rfl
  · clear h; intro hb h; conv => whnf
    all_goals (cases h; exact Res.z rfl rfl rfl)
  clear h; intro hb h; conv => whnf
  replace h := obind.elim h; obtain ⟨xr, hy, h⟩ := h
  refine sumK.q rfl rfl (r86_eq hy) rfl rfl rfl ?_
  conv => whnf
  refine br.h h ?_ ?_ ?_
  · rfl
  · clear h; intro hb h; conv => whnf
    all_goals (cases h; exact Res.z rfl rfl rfl)
  clear h; intro hb h; conv => whnf
  replace h := obind.elim h; obtain ⟨xr1, hy, h⟩ := h
  refine sumK.q rfl rfl (r86_eq hy) rfl rfl rfl ?_
  conv => whnf
  refine br.h h ?_ ?_ ?_
  · rfl
  · clear h; intro hb h; conv => whnf
    all_goals (cases h; exact Res.z rfl rfl rfl)
  clear h; intro hb h; conv => whnf
  refine br.h2 h ?_ ?_ ?_
  · rfl
  · clear h; intro hb h; conv => whnf
    replace h := obind.elim h; obtain ⟨p2, hy, h⟩ := h
    refine sumK.q rfl rfl (r99_eq hy) rfl rfl rfl ?_
    conv => whnf
    refine br.h2 h ?_ ?_ ?_
    · rfl
    · clear h; intro hb h; conv => whnf
      refine br.h2 h ?_ ?_ ?_
      · rfl
      · clear h; intro hb h; conv => whnf
        all_goals (cases h; exact Res.z rfl rfl rfl)
      clear h; intro hb h; conv => whnf
      refine br.h h ?_ ?_ ?_
      · rfl
      · clear h; intro hb h; conv => whnf
        all_goals (cases h; exact Res.z rfl rfl rfl)
      clear h; intro hb h; conv => whnf
      all_goals (cases h; exact Res.z rfl rfl rfl)
    clear h; intro hb h; conv => whnf
    replace h := obind.elim h; obtain ⟨p3, hy, h⟩ := h
    refine sumK.q rfl rfl (r23_eq hy) rfl rfl rfl ?_
    conv => whnf
    refine br.h2 h ?_ ?_ ?_
    · rfl
    · clear h; intro hb h; conv => whnf
      all_goals (cases h; exact Res.z rfl rfl rfl)
    clear h; intro hb h; conv => whnf
    refine br.h h ?_ ?_ ?_
    · rfl
    · clear h; intro hb h; conv => whnf
      all_goals (cases h; exact Res.z rfl rfl rfl)
    clear h; intro hb h; conv => whnf
    all_goals (cases h; exact Res.z rfl rfl rfl)
  clear h; intro hb h; conv => whnf
  refine br.h h ?_ ?_ ?_
  · rfl
  · clear h; intro hb h; conv => whnf
    all_goals (cases h; exact Res.z rfl rfl rfl)
  clear h; intro hb h; conv => whnf
  replace h := obind.elim h; obtain ⟨p, hy, h⟩ := h
  refine sumK.q rfl rfl (r99_eq hy) rfl rfl rfl ?_
  conv => whnf
  refine br.h2 h ?_ ?_ ?_
  · rfl
  · clear h; intro hb h; conv => whnf
    refine br.h2 h ?_ ?_ ?_
    · rfl
    · clear h; intro hb h; conv => whnf
      all_goals (cases h; exact Res.z rfl rfl rfl)
    clear h; intro hb h; conv => whnf
    refine br.h h ?_ ?_ ?_
    · rfl
    · clear h; intro hb h; conv => whnf
      all_goals (cases h; exact Res.z rfl rfl rfl)
    clear h; intro hb h; conv => whnf
    all_goals (cases h; exact Res.z rfl rfl rfl)
  clear h; intro hb h; conv => whnf
  replace h := obind.elim h; obtain ⟨p1, hy, h⟩ := h
  refine sumK.q rfl rfl (r23_eq hy) rfl rfl rfl ?_
  conv => whnf
  refine br.h2 h ?_ ?_ ?_
  · rfl
  · clear h; intro hb h; conv => whnf
    all_goals (cases h; exact Res.z rfl rfl rfl)
  clear h; intro hb h; conv => whnf
  refine br.h h ?_ ?_ ?_
  · rfl
  · clear h; intro hb h; conv => whnf
    all_goals (cases h; exact Res.z rfl rfl rfl)
  clear h; intro hb h; conv => whnf
  all_goals (cases h; exact Res.z rfl rfl rfl)
theorem ok105 (R04_Right : api_Addr → Option Bool) (R05_Put : ipfour_Head → (List UInt8) → Option ((List UInt8) × Int)) (R06_Put : ipsix_Head → (List UInt8) → Option ((List UInt8) × Int)) (hS : SumsOK Try.prog (aget (sums105 R04_Right R05_Put R06_Put))) : SumOK Try.prog 105 (s105 (R11_PutF R04_Right R05_Put R06_Put)) := by
  refine SumOK.of_leads tab_ok (fun ar os r ha hr => ?_) ⟨Try.f105, rfl, by decide, rfl⟩
  replace hr : r105 (R11_PutF R04_Right R05_Put R06_Put) ar (conts os) = some r := hr
  unfold r105 at hr
  generalize hc : conts os = C at hr
  replace hr := dV.elim hr; obtain ⟨v0, l1, y0, rfl, e0, hr⟩ := hr; obtain rfl := uvapi_Tuple_eq _ _ e0
  replace hr := dV.elim hr; obtain ⟨v1, l2, y1, rfl, e1, hr⟩ := hr; obtain rfl := asS_eq _ _ e1
  replace hr := dFin hr; obtain ⟨rfl, rfl, x, h, rfl⟩ := hr
  obtain rfl := kinds_nil hc
  exact ⟨_, rfl, leads105 R04_Right R05_Put R06_Put hS _ _ x h⟩
def R11_Put : api_Tuple → (List UInt8) → Option ((List UInt8) × Int) := R11_PutF R04_Right R05_Put R06_Put
theorem lift105 : SumOK Try.prog 105 (s105 R11_Put) := ok105 R04_Right R05_Put R06_Put (SumsOK.of_tab ⟨lift86, lift23, lift99, trivial⟩)
def R11_SegmentF (R07_Put : tcp_Head → api_Addr → api_Addr → (List UInt8) → Option ((List UInt8) × Int)) (R11_Put : api_Tuple → (List UInt8) → Option ((List UInt8) × Int)) (t : api_Tuple) (flags : Int) (options : List UInt8) (payload : List UInt8) : Option ((List UInt8) × Int) :=
  cond (t.Proto != 6)
    (
    some (([], 1)))
    (
    (R07_Put (tcp_Head.mk t.SPort t.DPort 0 0 flags 65535 0 options) t.Src t.Dst payload).bind fun p =>
    cond (p.2 != 0)
      (
      some (([], p.2)))
      (
      (R11_Put t p.1).bind fun p1 =>
      some ((p1.1, p1.2))))
def rx44 (x : (List UInt8) × Int) : SRes := ⟨.tuple ⟨[.string ⟨⟨x.1⟩⟩, .int .i64 x.2]⟩, [], []⟩
def r44 (g : api_Tuple → Int → (List UInt8) → (List UInt8) → Option ((List UInt8) × Int)) : Dec := dV uvapi_Tuple fun (y0 : api_Tuple) => dV (asI .i64) fun (y1 : Int) => dV asS fun (y2 : List UInt8) => dV asS fun (y3 : List UInt8) => dEnd (ofG (g y0 y1 y2 y3) rx44)
theorem r44_c {g : api_Tuple → Int → (List UInt8) → (List UInt8) → Option ((List UInt8) × Int)} {y0 : api_Tuple} {y1 : Int} {y2 : List UInt8} {y3 : List UInt8} {x : (List UInt8) × Int} (hx : g y0 y1 y2 y3 = some x) : r44 g [.agg ⟨[.int .i64 y0.Proto, .bool y0.Src.V6, .int .u64 y0.Src.Hi, .int .u64 y0.Src.Lo, .bool y0.Dst.V6, .int .u64 y0.Dst.Hi, .int .u64 y0.Dst.Lo, .int .i64 y0.SPort, .int .i64 y0.DPort]⟩, .int .i64 y1, .string ⟨⟨y2⟩⟩, .string ⟨⟨y3⟩⟩] [] = some (rx44 x) := (dV_eq (uvapi_Tuple_c _)).trans ((dV_eq (asI_c _)).trans ((dV_eq (asS_c)).trans ((dV_eq (asS_c)).trans (ofG_eq hx))))
def s44 (g : api_Tuple → Int → (List UInt8) → (List UInt8) → Option ((List UInt8) × Int)) : Summ := ⟨[.v, .v, .v, .v], r44 g⟩
theorem r44_eq {g : api_Tuple → Int → (List UInt8) → (List UInt8) → Option ((List UInt8) × Int)} {y0 : api_Tuple} {y1 : Int} {y2 : List UInt8} {y3 : List UInt8} {x : (List UInt8) × Int} (hx : g y0 y1 y2 y3 = some x) : (s44 g).run [.agg ⟨[.int .i64 y0.Proto, .bool y0.Src.V6, .int .u64 y0.Src.Hi, .int .u64 y0.Src.Lo, .bool y0.Dst.V6, .int .u64 y0.Dst.Hi, .int .u64 y0.Dst.Lo, .int .i64 y0.SPort, .int .i64 y0.DPort]⟩, .int .i64 y1, .string ⟨⟨y2⟩⟩, .string ⟨⟨y3⟩⟩] [] = some (rx44 x) := r44_c hx
abbrev sums44 (R07_Put : tcp_Head → api_Addr → api_Addr → (List UInt8) → Option ((List UInt8) × Int)) (R11_Put : api_Tuple → (List UInt8) → Option ((List UInt8) × Int)) : List (Nat × Summ) := [(50, s50 R07_Put), (105, s105 R11_Put)]
theorem leads44 (R07_Put : tcp_Head → api_Addr → api_Addr → (List UInt8) → Option ((List UInt8) × Int)) (R11_Put : api_Tuple → (List UInt8) → Option ((List UInt8) × Int)) (hS : SumsOK Try.prog (aget (sums44 R07_Put R11_Put))) (t : api_Tuple) (flags : Int) (options : List UInt8) (payload : List UInt8) (res : (List UInt8) × Int) (h : R11_SegmentF R07_Put R11_Put t flags options payload = some res) :
    Leads Try.prog 44 0 ⟨⟨44, 39, [(0, .agg ⟨[.int .i64 t.Proto, .bool t.Src.V6, .int .u64 t.Src.Hi, .int .u64 t.Src.Lo, .bool t.Dst.V6, .int .u64 t.Dst.Hi, .int .u64 t.Dst.Lo, .int .i64 t.SPort, .int .i64 t.DPort]⟩), (1, .int .i64 flags), (2, .string ⟨⟨options⟩⟩), (3, .string ⟨⟨payload⟩⟩)], [.code k44_17], [], false, none⟩, [], [], 0⟩ (fun v H _ => Res 0 (rx44 res) v H) := by
  unfold R11_SegmentF at h
  refine ev_ok tab_ok hS true 3000 ?_
  conv => whnf
  refine br.h h ?_ ?_ ?_
  · rfl
  · clear h; intro hb h; conv => whnf
    all_goals (cases h; exact Res.z rfl rfl rfl)
  clear h; intro hb h; conv => whnf
  replace h := obind.elim h; obtain ⟨p, hy, h⟩ := h
  refine sumK.q rfl rfl (r50_eq hy) rfl rfl rfl ?_
  conv => whnf
  refine br.h h ?_ ?_ ?_
  · rfl
  · clear h; intro hb h; conv => whnf
    all_goals (cases h; exact Res.z rfl rfl rfl)
  clear h; intro hb h; conv => whnf
  replace h := obind.elim h; obtain ⟨p1, hy, h⟩ := h
  refine sumK.q rfl rfl (r105_eq hy) rfl rfl rfl ?_
  conv => whnf
  all_goals (cases h; exact Res.z rfl rfl rfl)
theorem ok44 (R07_Put : tcp_Head → api_Addr → api_Addr → (List UInt8) → Option ((List UInt8) × Int)) (R11_Put : api_Tuple → (List UInt8) → Option ((List UInt8) × Int)) (hS : SumsOK Try.prog (aget (sums44 R07_Put R11_Put))) : SumOK Try.prog 44 (s44 (R11_SegmentF R07_Put R11_Put)) := by
  refine SumOK.of_leads tab_ok (fun ar os r ha hr => ?_) ⟨Try.f44, rfl, by decide, rfl⟩
  replace hr : r44 (R11_SegmentF R07_Put R11_Put) ar (conts os) = some r := hr
  unfold r44 at hr
  generalize hc : conts os = C at hr
  replace hr := dV.elim hr; obtain ⟨v0, l1, y0, rfl, e0, hr⟩ := hr; obtain rfl := uvapi_Tuple_eq _ _ e0
  replace hr := dV.elim hr; obtain ⟨v1, l2, y1, rfl, e1, hr⟩ := hr; obtain rfl := asI_eq _ _ _ e1
  replace hr := dV.elim hr; obtain ⟨v2, l3, y2, rfl, e2, hr⟩ := hr; obtain rfl := asS_eq _ _ e2
  replace hr := dV.elim hr; obtain ⟨v3, l4, y3, rfl, e3, hr⟩ := hr; obtain rfl := asS_eq _ _ e3
  replace hr := dFin hr; obtain ⟨rfl, rfl, x, h, rfl⟩ := hr
  obtain rfl := kinds_nil hc
  exact ⟨_, rfl, leads44 R07_Put R11_Put hS _ _ _ _ x h⟩
def R11_Segment : api_Tuple → Int → (List UInt8) → (List UInt8) → Option ((List UInt8) × Int) := R11_SegmentF R07_Put R11_Put
theorem lift44 : SumOK Try.prog 44 (s44 R11_Segment) := ok44 R07_Put R11_Put (SumsOK.of_tab ⟨lift50, lift105, trivial⟩)
end Go.Vm.Code
