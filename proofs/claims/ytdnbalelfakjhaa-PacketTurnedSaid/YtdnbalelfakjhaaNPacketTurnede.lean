import Derived.Test.YtdnbalelfakjhaaNPacketTurnedd
namespace Go.Vm.Code
open Go Go.Vm Go.Proofs
set_option maxRecDepth 100000
set_option maxHeartbeats 4000000
set_option linter.unusedVariables false
def R02_Put_s1 (k : Int) (n1 : Int) (s : List UInt8) (i : Int) : Option (Sum (Int × (List UInt8) × Int) (List UInt8)) :=
  cond (decide (i < k))
    (
    cond (decide (k ≤ 8))
      (
      let t := [UInt8.ofNat (wI .u8 (n1.tmod 256)).toNat]
      oreq (decide (t.length + s.length < 2 ^ 63)) <|
      some (.inl (wI .u64 (n1.tdiv 256), t ++ s, wI .i64 (i + 1))))
      (
      some (.inr (s))))
    (
    some (.inr (s)))
def R02_PutF (n : Int) (k : Int) : Option (List UInt8) :=
  iter (fun st => R02_Put_s1 k st.1 st.2.1 st.2.2) FUEL (n, [], 0)
def rx24 (x : List UInt8) : SRes := ⟨.string ⟨⟨x⟩⟩, [], []⟩
def r24 (g : Int → Int → Option (List UInt8)) : Dec := dV (asI .u64) fun (y0 : Int) => dV (asI .i64) fun (y1 : Int) => dEnd (ofG (g y0 y1) rx24)
theorem r24_c {g : Int → Int → Option (List UInt8)} {y0 : Int} {y1 : Int} {x : List UInt8} (hx : g y0 y1 = some x) : r24 g [.int .u64 y0, .int .i64 y1] [] = some (rx24 x) := (dV_eq (asI_c _)).trans ((dV_eq (asI_c _)).trans (ofG_eq hx))
def s24 (g : Int → Int → Option (List UInt8)) : Summ := ⟨[.v, .v], r24 g⟩
theorem r24_eq {g : Int → Int → Option (List UInt8)} {y0 : Int} {y1 : Int} {x : List UInt8} (hx : g y0 y1 = some x) : (s24 g).run [.int .u64 y0, .int .i64 y1] [] = some (rx24 x) := r24_c hx
abbrev sums24 : List (Nat × Summ) := []
def head24_1 (k : Int) (n1 : Int) (s : List UInt8) (i : Int) : VM :=
  ⟨⟨24, 26, [(0, .int .u64 n1), (1, .int .i64 k), (5, .string ⟨⟨s⟩⟩), (6, .int .i64 i)], [.code k24_12, .inLoop k24_12, .inBlock 0, .code k24_17], [], false, none⟩, [], [], 0⟩
theorem loop24_1 (hS : SumsOK Try.prog (aget (sums24))) (k : Int) (res : List UInt8) : ∀ fuel (st : Int × (List UInt8) × Int) (o : List UInt8), iter (fun st => R02_Put_s1 k st.1 st.2.1 st.2.2) fuel st = some o → (o = res) →
    Leads Try.prog 24 0 (head24_1 k st.1 st.2.1 st.2.2) (fun v H _ => Res 0 (rx24 res) v H) := by
  intro fuel st o h hc
  refine iter_leads (head := fun st => head24_1 k st.1 st.2.1 st.2.2) (C := fun o => (o = res)) ?_ fuel st o h hc
  clear h hc o st fuel
  intro st o h hc
  obtain ⟨n1, s, i⟩ := st
  replace h : R02_Put_s1 k n1 s i = some o := h
  show Leads Try.prog 24 0 (head24_1 k n1 s i) (fun v H _ => Res 0 (rx24 res) v H)
  unfold R02_Put_s1 at h
  refine ev_ok tab_ok hS true 3000 ?_
  conv => whnf
  refine br.h2 h ?_ ?_ ?_
  · rfl
  · clear h; intro hb h; conv => whnf
    all_goals (cases h; cases hc; exact Res.z rfl rfl rfl)
  clear h; intro hb h; conv => whnf
  refine br.h2 h ?_ ?_ ?_
  · rfl
  · clear h; intro hb h; conv => whnf
    all_goals (cases h; cases hc; exact Res.z rfl rfl rfl)
  clear h; intro hb h; conv => whnf
  refine pk_b2sL rfl ?_
  conv => whnf
  let t : List UInt8 := [UInt8.ofNat (wI .u8 (n1.tmod 256)).toNat]
  replace h := oreq.elim h; obtain ⟨hb, h⟩ := h
  first | (refine req.intro hb ?_; conv => whnf) | skip
  cases h; simp only [Sum.elim_inl, head24_1] at hc
  refine Leads.re hc [] rfl ?_ ?_ <;> (repeat' first | exact trivial | refine ⟨⟨_, rfl, rfl⟩, ?_⟩ | refine ⟨⟨_, _, rfl, rfl, .rowF (vI_flat _ _) id⟩, ?_⟩ | refine ⟨⟨_, _, rfl, rfl, .rowF (vS_flat _) id⟩, ?_⟩ | refine ⟨⟨_, _, rfl, rfl, .rowF (vB_flat _) id⟩, ?_⟩ | refine ⟨⟨_, _, rfl, rfl, .rowF (vT_flat (by first | exact capi_Addr_flat | exact capi_Tuple_flat | exact cquic_Head_flat | exact capi_Packet_flat | exact cpacket_outer_flat | exact cipfour_Head_flat | exact coctet_Reader_flat | exact cipsix_Head_flat | exact ctcp_Head_flat | exact ctcp_Opt_flat | exact cudp_Head_flat) _) id⟩, ?_⟩ | refine ⟨⟨_, _, rfl, rfl, .tyF (vI_flat _ _)⟩, ?_⟩ | refine ⟨⟨_, _, rfl, rfl, .ty rfl⟩, ?_⟩ | refine ⟨⟨_, _, rfl, rfl, .cells rfl⟩, ?_⟩ | refine ⟨⟨_, _, rfl, rfl, .row rfl id⟩, ?_⟩ | refine ⟨⟨_, _, rfl, rfl, .cr rfl⟩, ?_⟩ | refine ⟨⟨_, _, rfl, rfl, .rc rfl⟩, ?_⟩ | refine ⟨⟨_, _, rfl, rfl, .marks⟩, ?_⟩ | refine ⟨⟨_, _, rfl, rfl, .siter _ _⟩, ?_⟩ | refine ⟨⟨_, _, rfl, rfl, .loop rfl rfl rfl rfl (by repeat' first | exact trivial | refine ⟨rfl, ?_⟩) rfl rfl rfl rfl⟩, ?_⟩)
theorem leads24 (hS : SumsOK Try.prog (aget (sums24))) (n : Int) (k : Int) (res : List UInt8) (h : R02_PutF n k = some res) :
    Leads Try.prog 24 0 ⟨⟨24, 26, [(0, .int .u64 n), (1, .int .i64 k)], [.code k24_20], [], false, none⟩, [], [], 0⟩ (fun v H _ => Res 0 (rx24 res) v H) := by
  unfold R02_PutF at h
  refine ev_ok tab_ok hS true 3000 ?_
  conv => whnf
  have hl := loop24_1 hS _ res _ _ _ h rfl; simp only [head24_1] at hl
  refine Leads.re hl [] rfl ?_ ?_ <;> (repeat' first | exact trivial | refine ⟨⟨_, rfl, rfl⟩, ?_⟩ | refine ⟨⟨_, _, rfl, rfl, .rowF (vI_flat _ _) id⟩, ?_⟩ | refine ⟨⟨_, _, rfl, rfl, .rowF (vS_flat _) id⟩, ?_⟩ | refine ⟨⟨_, _, rfl, rfl, .rowF (vB_flat _) id⟩, ?_⟩ | refine ⟨⟨_, _, rfl, rfl, .rowF (vT_flat (by first | exact capi_Addr_flat | exact capi_Tuple_flat | exact cquic_Head_flat | exact capi_Packet_flat | exact cpacket_outer_flat | exact cipfour_Head_flat | exact coctet_Reader_flat | exact cipsix_Head_flat | exact ctcp_Head_flat | exact ctcp_Opt_flat | exact cudp_Head_flat) _) id⟩, ?_⟩ | refine ⟨⟨_, _, rfl, rfl, .tyF (vI_flat _ _)⟩, ?_⟩ | refine ⟨⟨_, _, rfl, rfl, .ty rfl⟩, ?_⟩ | refine ⟨⟨_, _, rfl, rfl, .cells rfl⟩, ?_⟩ | refine ⟨⟨_, _, rfl, rfl, .row rfl id⟩, ?_⟩ | refine ⟨⟨_, _, rfl, rfl, .cr rfl⟩, ?_⟩ | refine ⟨⟨_, _, rfl, rfl, .rc rfl⟩, ?_⟩ | refine ⟨⟨_, _, rfl, rfl, .marks⟩, ?_⟩ | refine ⟨⟨_, _, rfl, rfl, .siter _ _⟩, ?_⟩ | refine ⟨⟨_, _, rfl, rfl, .loop rfl rfl rfl rfl (by repeat' first | exact trivial | refine ⟨rfl, ?_⟩) rfl rfl rfl rfl⟩, ?_⟩)
theorem ok24 (hS : SumsOK Try.prog (aget (sums24))) : SumOK Try.prog 24 (s24 (R02_PutF)) := by
  refine SumOK.of_leads tab_ok (fun ar os r ha hr => ?_) ⟨Try.f24, rfl, by decide, rfl⟩
  replace hr : r24 (R02_PutF) ar (conts os) = some r := hr
  unfold r24 at hr
  generalize hc : conts os = C at hr
  replace hr := dV.elim hr; obtain ⟨v0, l1, y0, rfl, e0, hr⟩ := hr; obtain rfl := asI_eq _ _ _ e0
  replace hr := dV.elim hr; obtain ⟨v1, l2, y1, rfl, e1, hr⟩ := hr; obtain rfl := asI_eq _ _ _ e1
  replace hr := dFin hr; obtain ⟨rfl, rfl, x, h, rfl⟩ := hr
  obtain rfl := kinds_nil hc
  exact ⟨_, rfl, leads24 hS _ _ x h⟩
def R02_Put : Int → Int → Option (List UInt8) := R02_PutF
theorem lift24 : SumOK Try.prog 24 (s24 R02_Put) := ok24 (SumsOK.of_tab trivial)
end Go.Vm.Code
namespace Go.Vm.Code
open Go Go.Vm
def putS (n k : Int) : List UInt8 := if 1 ≤ k ∧ k ≤ 8 then be n.toNat k.toNat else []
theorem octet_Put_eq {n k : Int} (h0 : 0 ≤ n) : octet_Put n k = some (putS n k) := by
  unfold octet_Put octet_PutF putS
  by_cases h1 : k < 1
  · rw [cond_p h1, if_neg (by omega)]
  by_cases h2 : k > 8
  · rw [cond_n h1, cond_p h2, if_neg (by omega)]
  rw [cond_n h1, cond_n h2, oreq_p (by omega), if_pos (by omega)]
  obtain ⟨m, rfl⟩ := Int.eq_ofNat_of_zero_le h0
  obtain ⟨j, rfl⟩ := Int.eq_ofNat_of_zero_le (show 0 ≤ k by omega)
  have key := iter_eq (step := fun (st : Int × List Int) => octet_Put_s1 (m : Int) (j : Int) st.1 st.2) (fun st => iB (st.2.take st.1.toNat) ++ be m (j - st.1.toNat)) (fun st => 0 ≤ st.1 ∧ st.1 ≤ j ∧ st.2.length = j) (fun st => (j - st.1).toNat) ?_ FUEL (0, List.replicate (j : Int).toNat 0) ⟨by simp, by simp, by simp⟩ (by rw [FUEL_eq]; simp only; omega)
  · rw [key]; simp [iB]
  rintro ⟨p, b⟩ ⟨g1, g2, g3⟩
  simp only at g1 g2 g3 ⊢
  obtain ⟨i, rfl⟩ := Int.eq_ofNat_of_zero_le g1
  unfold octet_Put_s1
  by_cases hp : i < j
  · refine .inr ⟨(((i + 1 : Nat) : Int), b.set i ((m / 256 ^ (j - 1 - i) % 256 : Nat) : Int)), ?_, ⟨by simp only; omega, by simp only; omega, by simp [g3]⟩, by simp only; omega, ?_⟩
    · simp (disch := omega) only [wI64, oreq_p, cond_p, Int.toNat_natCast]
      have e1 : min (8 * ((j : Int) - 1 - i)).toNat 64 = 8 * (j - 1 - i) := by omega
      have e0 : (2 : Int) ^ (8 * (j - 1 - i)) = ((256 ^ (j - 1 - i) : Nat) : Int) := by rw [show (256 : Nat) = 2 ^ 8 from rfl, ← Nat.pow_mul]; push_cast; rfl
      rw [e1, fdivP, wU8m, e0]
      rfl
    · simp only [Int.toNat_natCast]
      have e2 : j - i = (j - (i + 1)) + 1 := by omega
      have e3 : j - (i + 1) = j - 1 - i := by omega
      have e4 : (b.set i ((m / 256 ^ (j - 1 - i) % 256 : Nat) : Int)).take (i + 1) = b.take i ++ [((m / 256 ^ (j - 1 - i) % 256 : Nat) : Int)] := by
        rw [List.take_succ_eq_append_getElem (by simp; omega), List.take_set_of_le (Nat.le_refl _), List.getElem_set_self]
      rw [e2, e4, be, e3]
      simp only [iB, List.map_append, List.map_cons, List.map_nil, List.append_assoc, List.cons_append, List.nil_append, Int.toNat_natCast]
      congr 2
      apply UInt8.toNat_inj.1
      simp
  · refine .inl ?_
    obtain rfl : i = j := by omega
    simp (disch := omega) only [cond_n, oreq_p, Int.toNat_natCast]
    simp [be]
theorem R02_Put_eq {n k : Int} (h0 : 0 ≤ n) (h1 : n < 2 ^ 64) : R02_Put n k = some (putS n k) := by
  unfold R02_Put R02_PutF putS
  obtain ⟨m, rfl⟩ := Int.eq_ofNat_of_zero_le h0
  by_cases hk : 1 ≤ k ∧ k ≤ 8
  · rw [if_pos hk]
    obtain ⟨j, rfl⟩ := Int.eq_ofNat_of_zero_le (show 0 ≤ k by omega)
    have key := iter_eq (step := fun st => R02_Put_s1 (j : Int) st.1 st.2.1 st.2.2) (fun st => be st.1.toNat (j - st.2.2.toNat) ++ st.2.1) (fun st => 0 ≤ st.1 ∧ st.1 < 2 ^ 64 ∧ 0 ≤ st.2.2 ∧ st.2.2 ≤ j ∧ st.2.1.length < 2 ^ 20 + st.2.2.toNat) (fun st => (j - st.2.2).toNat) ?_ FUEL ((m : Int), [], 0) ⟨by simp, by simp only; omega, by simp, by simp, by simp⟩ (by rw [FUEL_eq]; simp only; omega)
    · rw [key]; simp
    rintro ⟨n, s, p⟩ ⟨g1, g2, g3, g4, g5⟩
    simp only at g1 g2 g3 g4 g5 ⊢
    obtain ⟨i, rfl⟩ := Int.eq_ofNat_of_zero_le g3
    obtain ⟨x, rfl⟩ := Int.eq_ofNat_of_zero_le g1
    unfold R02_Put_s1
    by_cases hp : i < j
    · refine .inr ⟨(((x / 256 : Nat) : Int), UInt8.ofNat x :: s, ((i + 1 : Nat) : Int)), ?_, ⟨by simp only; omega, by simp only; omega, by simp only; omega, by simp only; omega, by simp at g5 ⊢; omega⟩, by simp only; omega, ?_⟩
      · have e1 : (x : Int).tmod 256 = ((x % 256 : Nat) : Int) := by rw [Int.tmod_eq_emod_of_nonneg (by omega)]; rfl
        have e2 : (x : Int).tdiv 256 = ((x / 256 : Nat) : Int) := by rw [Int.tdiv_eq_ediv_of_nonneg (by omega)]; rfl
        rw [cond_p (by omega), cond_p (by omega), e1, e2, wU8 (by omega) (by omega)]
        simp only [List.length_cons, List.length_nil]
        rw [oreq_p (by omega), wU64 (by omega) (by omega), wI64 (by omega) (by omega), Int.toNat_natCast]
        have e3 : UInt8.ofNat (x % 256) = UInt8.ofNat x := by apply UInt8.toNat_inj.1; simp
        rw [e3]; rfl
      · simp only [Int.toNat_natCast]
        have e2 : j - i = (j - (i + 1)) + 1 := by omega
        rw [e2, be_snoc]; simp
    · refine .inl ?_
      obtain rfl : i = j := by omega
      rw [cond_n (by omega)]
      simp [be]
  · rw [if_neg hk]
    show iter _ (18446744073709551615 + 1) _ = _
    rw [iter]
    have : R02_Put_s1 k (m : Int) [] 0 = some (.inr []) := by
      unfold R02_Put_s1
      by_cases h2 : 0 < k
      · rw [cond_p h2, cond_n (by omega)]
      · rw [cond_n h2]
    simp only [this]
def getS (s : List UInt8) (p k : Int) : Int × Bool := if 1 ≤ k ∧ k ≤ 8 ∧ 0 ≤ p ∧ p + k ≤ s.length then (((valL ((s.drop p.toNat).take k.toNat) : Nat) : Int), true) else (0, false)
theorem pow_step {v i : Nat} (h : v < 256 ^ i) (hi : i ≤ 7) : v < 2 ^ 56 := Nat.lt_of_lt_of_le h (by
  have : (256 : Nat) ^ i ≤ 256 ^ 7 := Nat.pow_le_pow_right (by decide) hi
  simpa using this)
theorem octet_Get_eq {s : List UInt8} {p k : Int} (hs : s.length < 2 ^ 61) : octet_Get s p k = some (getS s p k) := by
  unfold octet_Get octet_GetF getS
  by_cases h1 : k < 1
  · rw [cond_p h1, if_neg (by omega)]
  by_cases h2 : k > 8
  · rw [cond_n h1, cond_p h2, if_neg (by omega)]
  by_cases h3 : p < 0
  · rw [cond_n h1, cond_n h2, cond_p h3, if_neg (by omega)]
  rw [cond_n h1, cond_n h2, cond_n h3, wI64 (n := (s.length : Int) - k) (by omega) (by omega)]
  by_cases h4 : (s.length : Int) - k < p
  · simp only []
    rw [cond_p h4, if_neg (by omega)]
  simp only []
  rw [cond_n h4, wI64 (n := p + k) (by omega) (by omega), oreq_p (by omega), if_pos (by omega)]
  obtain ⟨q, rfl⟩ := Int.eq_ofNat_of_zero_le (show 0 ≤ p by omega)
  obtain ⟨j, rfl⟩ := Int.eq_ofNat_of_zero_le (show 0 ≤ k by omega)
  have e : ((q : Int) + j).toNat - (q : Int).toNat = j := by omega
  rw [e]
  simp only [Int.toNat_natCast]
  generalize ht : (s.drop q).take j = t
  have hl : t.length = j := by rw [← ht]; simp; omega
  have key := iter_eq (step := fun st => octet_Get_s1 t st.1 st.2) (fun st => (((st.1.toNat * 256 ^ (j - st.2.toNat) + valL (t.drop st.2.toNat) : Nat) : Int), true)) (fun st => 0 ≤ st.1 ∧ 0 ≤ st.2 ∧ st.2 ≤ j ∧ st.1.toNat < 256 ^ st.2.toNat) (fun st => (j - st.2).toNat) ?_ FUEL (0, 0) ⟨by simp, by simp, by simp, by simp⟩ (by rw [FUEL_eq]; simp only; omega)
  · rw [key]; simp
  rintro ⟨n, x⟩ ⟨g1, g2, g3, g4⟩
  simp only at g1 g2 g3 g4 ⊢
  obtain ⟨i, rfl⟩ := Int.eq_ofNat_of_zero_le g2
  obtain ⟨v, rfl⟩ := Int.eq_ofNat_of_zero_le g1
  simp only [Int.toNat_natCast] at g4 ⊢
  unfold octet_Get_s1
  by_cases hp : i < j
  · have hlt : i < t.length := by omega
    have hb := t[i].toNat_lt
    have hv := pow_step g4 (by omega)
    refine .inr ⟨(((v * 256 + t[i].toNat : Nat) : Int), ((i + 1 : Nat) : Int)), ?_, ⟨by simp only; omega, by simp only; omega, by simp only; omega, ?_⟩, by simp only; omega, ?_⟩
    · rw [cond_p (by omega), oreq_p (by omega)]
      have e1 : (bI t)[(i : Int).toNat]? = some (t[i].toNat : Int) := by simp [bI, hlt]
      rw [e1, Option.bind_some]
      have e2 : iorI .u64 (wI .u64 ((v : Int) * 2 ^ 8)) (wI .u64 (t[i].toNat : Int)) = ((v * 256 + t[i].toNat : Nat) : Int) := by
        rw [wU64 (by omega) (by omega), wU64 (by omega) (by omega), iorU64_low 8 (by omega) (by omega) (by omega) (by omega) (by omega)]; omega
      simp only [e2]
      rw [wI64 (by omega) (by omega)]; rfl
    · simp only [Int.toNat_natCast]
      rw [Nat.pow_succ]; omega
    · simp only [Int.toNat_natCast]
      rw [List.drop_eq_getElem_cons hlt, val_cons]
      have e3 : (t.drop (i + 1)).length = j - (i + 1) := by simp; omega
      have e4 : j - i = (j - (i + 1)) + 1 := by omega
      rw [e3, e4, Nat.pow_succ, Nat.add_mul, Nat.mul_assoc, Nat.mul_comm 256, Nat.add_assoc]
  · refine .inl ?_
    obtain rfl : i = j := by omega
    rw [cond_n (by omega)]
    simp [← hl]
end Go.Vm.Code
namespace Go.Vm.Code
open Go Go.Vm Go.Proofs
set_option maxRecDepth 100000
set_option maxHeartbeats 4000000
set_option linter.unusedVariables false
def check_SetF (octet_Put : Int → Int → Option (List UInt8)) (s : List UInt8) (ata1 : Int) (k : Int) (n : Int) : Option (List UInt8) :=
  (octet_Put n k).bind fun p =>
  cond (p == [])
    (
    some (s))
    (
    cond (decide (ata1 < 0))
      (
      some (s))
      (
      let t := decide ((wI .i64 ((s.length : Int) - k)) < ata1)
      cond (t)
        (
        some (s))
        (
        oreq (decide ((0 : Int) ≤ ata1 ∧ ata1 ≤ (s.length : Int))) <|
        oreq (decide ((s.take ata1.toNat).length + p.length < 2 ^ 63)) <|
        oreq (decide ((0 : Int) ≤ (wI .i64 (ata1 + k)) ∧ (wI .i64 (ata1 + k)) ≤ (s.length : Int))) <|
        let t1 := (s.drop (wI .i64 (ata1 + k)).toNat).take (s.length - (wI .i64 (ata1 + k)).toNat)
        oreq (decide (((s.take ata1.toNat) ++ p).length + t1.length < 2 ^ 63)) <|
        some (((s.take ata1.toNat) ++ p) ++ t1))))
def rx28 (x : List UInt8) : SRes := ⟨.string ⟨⟨x⟩⟩, [], []⟩
def r28 (g : (List UInt8) → Int → Int → Int → Option (List UInt8)) : Dec := dV asS fun (y0 : List UInt8) => dV (asI .i64) fun (y1 : Int) => dV (asI .i64) fun (y2 : Int) => dV (asI .u64) fun (y3 : Int) => dEnd (ofG (g y0 y1 y2 y3) rx28)
theorem r28_c {g : (List UInt8) → Int → Int → Int → Option (List UInt8)} {y0 : List UInt8} {y1 : Int} {y2 : Int} {y3 : Int} {x : List UInt8} (hx : g y0 y1 y2 y3 = some x) : r28 g [.string ⟨⟨y0⟩⟩, .int .i64 y1, .int .i64 y2, .int .u64 y3] [] = some (rx28 x) := (dV_eq (asS_c)).trans ((dV_eq (asI_c _)).trans ((dV_eq (asI_c _)).trans ((dV_eq (asI_c _)).trans (ofG_eq hx))))
def s28 (g : (List UInt8) → Int → Int → Int → Option (List UInt8)) : Summ := ⟨[.v, .v, .v, .v], r28 g⟩
theorem r28_eq {g : (List UInt8) → Int → Int → Int → Option (List UInt8)} {y0 : List UInt8} {y1 : Int} {y2 : Int} {y3 : Int} {x : List UInt8} (hx : g y0 y1 y2 y3 = some x) : (s28 g).run [.string ⟨⟨y0⟩⟩, .int .i64 y1, .int .i64 y2, .int .u64 y3] [] = some (rx28 x) := r28_c hx
abbrev sums28 (octet_Put : Int → Int → Option (List UInt8)) : List (Nat × Summ) := [(44, s44 octet_Put)]
theorem leads28 (octet_Put : Int → Int → Option (List UInt8)) (hS : SumsOK Try.prog (aget (sums28 octet_Put))) (s : List UInt8) (ata1 : Int) (k : Int) (n : Int) (res : List UInt8) (h : check_SetF octet_Put s ata1 k n = some res) :
    Leads Try.prog 28 0 ⟨⟨28, 39, [(0, .string ⟨⟨s⟩⟩), (1, .int .i64 ata1), (2, .int .i64 k), (3, .int .u64 n)], [.code k28_11], [], false, none⟩, [], [], 0⟩ (fun v H _ => Res 0 (rx28 res) v H) := by
  unfold check_SetF at h
  refine ev_ok tab_ok hS true 3000 ?_
  conv => whnf
  replace h := obind.elim h; obtain ⟨p, hy, h⟩ := h
  refine sumK.q rfl rfl (r44_eq hy) rfl rfl rfl ?_
  conv => whnf
  refine br.h h ?_ ?_ ?_
  · rfl
  · clear h; intro hb h; conv => whnf
    all_goals (cases h; exact Res.z rfl rfl rfl)
  clear h; intro hb h; conv => whnf
  refine br.h h ?_ ?_ ?_
  · rfl
  · clear h; intro hb h; conv => whnf
    all_goals (cases h; exact Res.z rfl rfl rfl)
  clear h; intro hb h; conv => whnf
  let t : Bool := decide ((wI .i64 ((s.length : Int) - k)) < ata1)
  refine br.h h ?_ ?_ ?_
  · rfl
  · clear h; intro hb h; conv => whnf
    all_goals (cases h; exact Res.z rfl rfl rfl)
  clear h; intro hb h; conv => whnf
  replace h := oreq.elim h; obtain ⟨hb, h⟩ := h
  first | (refine req.intro hb ?_; conv => whnf) | skip
  replace h := oreq.elim h; obtain ⟨hb, h⟩ := h
  first | (refine req.intro hb ?_; conv => whnf) | skip
  replace h := oreq.elim h; obtain ⟨hb, h⟩ := h
  first | (refine req.intro hb ?_; conv => whnf) | skip
  let t1 : List UInt8 := (s.drop (wI .i64 (ata1 + k)).toNat).take (s.length - (wI .i64 (ata1 + k)).toNat)
  replace h := oreq.elim h; obtain ⟨hb, h⟩ := h
  first | (refine req.intro hb ?_; conv => whnf) | skip
  all_goals (cases h; exact Res.z rfl rfl rfl)
theorem ok28 (octet_Put : Int → Int → Option (List UInt8)) (hS : SumsOK Try.prog (aget (sums28 octet_Put))) : SumOK Try.prog 28 (s28 (check_SetF octet_Put)) := by
  refine SumOK.of_leads tab_ok (fun ar os r ha hr => ?_) ⟨Try.f28, rfl, by decide, rfl⟩
  replace hr : r28 (check_SetF octet_Put) ar (conts os) = some r := hr
  unfold r28 at hr
  generalize hc : conts os = C at hr
  replace hr := dV.elim hr; obtain ⟨v0, l1, y0, rfl, e0, hr⟩ := hr; obtain rfl := asS_eq _ _ e0
  replace hr := dV.elim hr; obtain ⟨v1, l2, y1, rfl, e1, hr⟩ := hr; obtain rfl := asI_eq _ _ _ e1
  replace hr := dV.elim hr; obtain ⟨v2, l3, y2, rfl, e2, hr⟩ := hr; obtain rfl := asI_eq _ _ _ e2
  replace hr := dV.elim hr; obtain ⟨v3, l4, y3, rfl, e3, hr⟩ := hr; obtain rfl := asI_eq _ _ _ e3
  replace hr := dFin hr; obtain ⟨rfl, rfl, x, h, rfl⟩ := hr
  obtain rfl := kinds_nil hc
  exact ⟨_, rfl, leads28 octet_Put hS _ _ _ _ x h⟩
def check_Set : (List UInt8) → Int → Int → Int → Option (List UInt8) := check_SetF octet_Put
theorem lift28 : SumOK Try.prog 28 (s28 check_Set) := ok28 octet_Put (SumsOK.of_tab ⟨lift44, trivial⟩)
def check_OfF (check_Sum : (List UInt8) → Option Int) (s : List UInt8) : Option Int :=
  (check_Sum s).bind fun s1 =>
  some (wI .i64 (65535 - s1))
def rx49 (x : Int) : SRes := ⟨.int .i64 x, [], []⟩
def r49 (g : (List UInt8) → Option Int) : Dec := dV asS fun (y0 : List UInt8) => dEnd (ofG (g y0) rx49)
theorem r49_c {g : (List UInt8) → Option Int} {y0 : List UInt8} {x : Int} (hx : g y0 = some x) : r49 g [.string ⟨⟨y0⟩⟩] [] = some (rx49 x) := (dV_eq (asS_c)).trans (ofG_eq hx)
def s49 (g : (List UInt8) → Option Int) : Summ := ⟨[.v], r49 g⟩
theorem r49_eq {g : (List UInt8) → Option Int} {y0 : List UInt8} {x : Int} (hx : g y0 = some x) : (s49 g).run [.string ⟨⟨y0⟩⟩] [] = some (rx49 x) := r49_c hx
abbrev sums49 (check_Sum : (List UInt8) → Option Int) : List (Nat × Summ) := [(77, s77 check_Sum)]
theorem leads49 (check_Sum : (List UInt8) → Option Int) (hS : SumsOK Try.prog (aget (sums49 check_Sum))) (s : List UInt8) (res : Int) (h : check_OfF check_Sum s = some res) :
    Leads Try.prog 49 0 ⟨⟨49, 6, [(0, .string ⟨⟨s⟩⟩)], [.code k49_3], [], false, none⟩, [], [], 0⟩ (fun v H _ => Res 0 (rx49 res) v H) := by
  unfold check_OfF at h
  refine ev_ok tab_ok hS true 3000 ?_
  conv => whnf
  replace h := obind.elim h; obtain ⟨s1, hy, h⟩ := h
  refine sumK.q rfl rfl (r77_eq hy) rfl rfl rfl ?_
  conv => whnf
  all_goals (cases h; exact Res.z rfl rfl rfl)
theorem ok49 (check_Sum : (List UInt8) → Option Int) (hS : SumsOK Try.prog (aget (sums49 check_Sum))) : SumOK Try.prog 49 (s49 (check_OfF check_Sum)) := by
  refine SumOK.of_leads tab_ok (fun ar os r ha hr => ?_) ⟨Try.f49, rfl, by decide, rfl⟩
  replace hr : r49 (check_OfF check_Sum) ar (conts os) = some r := hr
  unfold r49 at hr
  generalize hc : conts os = C at hr
  replace hr := dV.elim hr; obtain ⟨v0, l1, y0, rfl, e0, hr⟩ := hr; obtain rfl := asS_eq _ _ e0
  replace hr := dFin hr; obtain ⟨rfl, rfl, x, h, rfl⟩ := hr
  obtain rfl := kinds_nil hc
  exact ⟨_, rfl, leads49 check_Sum hS _ x h⟩
def check_Of : (List UInt8) → Option Int := check_OfF check_Sum
theorem lift49 : SumOK Try.prog 49 (s49 check_Of) := ok49 check_Sum (SumsOK.of_tab ⟨lift77, trivial⟩)
def check_RightF (check_Sum : (List UInt8) → Option Int) (s : List UInt8) : Option Bool :=
  (check_Sum s).bind fun s1 =>
  some (s1 == 65535)
def rx101 (x : Bool) : SRes := ⟨.bool x, [], []⟩
def r101 (g : (List UInt8) → Option Bool) : Dec := dV asS fun (y0 : List UInt8) => dEnd (ofG (g y0) rx101)
theorem r101_c {g : (List UInt8) → Option Bool} {y0 : List UInt8} {x : Bool} (hx : g y0 = some x) : r101 g [.string ⟨⟨y0⟩⟩] [] = some (rx101 x) := (dV_eq (asS_c)).trans (ofG_eq hx)
def s101 (g : (List UInt8) → Option Bool) : Summ := ⟨[.v], r101 g⟩
theorem r101_eq {g : (List UInt8) → Option Bool} {y0 : List UInt8} {x : Bool} (hx : g y0 = some x) : (s101 g).run [.string ⟨⟨y0⟩⟩] [] = some (rx101 x) := r101_c hx
abbrev sums101 (check_Sum : (List UInt8) → Option Int) : List (Nat × Summ) := [(77, s77 check_Sum)]
theorem leads101 (check_Sum : (List UInt8) → Option Int) (hS : SumsOK Try.prog (aget (sums101 check_Sum))) (s : List UInt8) (res : Bool) (h : check_RightF check_Sum s = some res) :
    Leads Try.prog 101 0 ⟨⟨101, 6, [(0, .string ⟨⟨s⟩⟩)], [.code k101_3], [], false, none⟩, [], [], 0⟩ (fun v H _ => Res 0 (rx101 res) v H) := by
  unfold check_RightF at h
  refine ev_ok tab_ok hS true 3000 ?_
  conv => whnf
  replace h := obind.elim h; obtain ⟨s1, hy, h⟩ := h
  refine sumK.q rfl rfl (r77_eq hy) rfl rfl rfl ?_
  conv => whnf
  all_goals (cases h; exact Res.z rfl rfl rfl)
theorem ok101 (check_Sum : (List UInt8) → Option Int) (hS : SumsOK Try.prog (aget (sums101 check_Sum))) : SumOK Try.prog 101 (s101 (check_RightF check_Sum)) := by
  refine SumOK.of_leads tab_ok (fun ar os r ha hr => ?_) ⟨Try.f101, rfl, by decide, rfl⟩
  replace hr : r101 (check_RightF check_Sum) ar (conts os) = some r := hr
  unfold r101 at hr
  generalize hc : conts os = C at hr
  replace hr := dV.elim hr; obtain ⟨v0, l1, y0, rfl, e0, hr⟩ := hr; obtain rfl := asS_eq _ _ e0
  replace hr := dFin hr; obtain ⟨rfl, rfl, x, h, rfl⟩ := hr
  obtain rfl := kinds_nil hc
  exact ⟨_, rfl, leads101 check_Sum hS _ x h⟩
def check_Right : (List UInt8) → Option Bool := check_RightF check_Sum
theorem lift101 : SumOK Try.prog 101 (s101 check_Right) := ok101 check_Sum (SumsOK.of_tab ⟨lift77, trivial⟩)
end Go.Vm.Code
namespace Go.Vm.Code
open Go Go.Vm
def setS (s : List UInt8) (p k n : Int) : List UInt8 := if 1 ≤ k ∧ k ≤ 8 ∧ 0 ≤ p ∧ p + k ≤ s.length then s.take p.toNat ++ be n.toNat k.toNat ++ s.drop (p + k).toNat else s
theorem Set_eq {s : List UInt8} {p k n : Int} (hs : s.length < 2 ^ 40) (hn : 0 ≤ n) : check_Set s p k n = some (setS s p k n) := by
  unfold check_Set check_SetF setS
  rw [octet_Put_eq hn, Option.bind_some]
  unfold putS
  by_cases hk : 1 ≤ k ∧ k ≤ 8
  · rw [if_pos hk]
    have e : (be n.toNat k.toNat == []) = false := by
      rw [beq_eq_false_iff_ne]; intro h; have := congrArg List.length h; simp at this; omega
    rw [e, cond_false]
    by_cases h1 : p < 0
    · rw [cond_p h1, if_neg (by omega)]
    rw [cond_n h1, wI64 (n := (s.length : Int) - k) (by omega) (by omega)]
    by_cases h2 : (s.length : Int) - k < p
    · simp only []
      rw [cond_p h2, if_neg (by omega)]
    simp only []
    have e1 : (p + k).toNat = p.toNat + k.toNat := by omega
    have e2 : ((s.drop (p + k).toNat).take (s.length - (p + k).toNat)) = s.drop (p + k).toNat := List.take_of_length_le (by simp)
    rw [cond_n h2, oreq_p (by omega), wI64 (n := p + k) (by omega) (by omega), e2, oreq_p (by simp; omega), oreq_p (by omega), oreq_p (by simp; omega), if_pos (by omega)]
  · rw [if_neg hk, if_neg (by omega)]; rfl
theorem Of_eq {s : List UInt8} (h : s.length < 2 ^ 39) : check_Of s = some (65535 - ((norm (wsum s) : Nat) : Int)) := by
  unfold check_Of check_OfF
  have := norm_le (wsum s)
  rw [sum_eq s (by omega), Option.bind_some, wI64 (by omega) (by omega)]
theorem Right_eq {s : List UInt8} (h : s.length < 2 ^ 39) : check_Right s = some (((norm (wsum s) : Nat) : Int) == 65535) := by
  unfold check_Right check_RightF
  rw [sum_eq s (by omega), Option.bind_some]
end Go.Vm.Code
namespace Go.Vm.Code
open Go Go.Vm Go.Proofs
set_option maxRecDepth 100000
set_option maxHeartbeats 4000000
set_option linter.unusedVariables false
def addr_RightF (a : api_Addr) : Option Bool :=
  cond (a.V6)
    (
    some (true))
    (
    cond (a.Hi == 0)
      (
      some (decide (a.Lo < 4294967296)))
      (
      some (false)))
def rx50 (x : Bool) : SRes := ⟨.bool x, [], []⟩
def r50 (g : api_Addr → Option Bool) : Dec := dV uvapi_Addr fun (y0 : api_Addr) => dEnd (ofG (g y0) rx50)
theorem r50_c {g : api_Addr → Option Bool} {y0 : api_Addr} {x : Bool} (hx : g y0 = some x) : r50 g [.agg ⟨[.bool y0.V6, .int .u64 y0.Hi, .int .u64 y0.Lo]⟩] [] = some (rx50 x) := (dV_eq (uvapi_Addr_c _)).trans (ofG_eq hx)
def s50 (g : api_Addr → Option Bool) : Summ := ⟨[.v], r50 g⟩
theorem r50_eq {g : api_Addr → Option Bool} {y0 : api_Addr} {x : Bool} (hx : g y0 = some x) : (s50 g).run [.agg ⟨[.bool y0.V6, .int .u64 y0.Hi, .int .u64 y0.Lo]⟩] [] = some (rx50 x) := r50_c hx
abbrev sums50 : List (Nat × Summ) := []
theorem leads50 (hS : SumsOK Try.prog (aget (sums50))) (a : api_Addr) (res : Bool) (h : addr_RightF a = some res) :
    Leads Try.prog 50 0 ⟨⟨50, 15, [(0, .agg ⟨[.bool a.V6, .int .u64 a.Hi, .int .u64 a.Lo]⟩)], [.code k50_3], [], false, none⟩, [], [], 0⟩ (fun v H _ => Res 0 (rx50 res) v H) := by
  unfold addr_RightF at h
  refine ev_ok tab_ok hS true 3000 ?_
  conv => whnf
  refine br.h h ?_ ?_ ?_
  · rfl
  · clear h; intro hb h; conv => whnf
    all_goals (cases h; exact Res.z rfl rfl rfl)
  clear h; intro hb h; conv => whnf
  refine br.h h ?_ ?_ ?_
  · rfl
  · clear h; intro hb h; conv => whnf
    all_goals (cases h; exact Res.z rfl rfl rfl)
  clear h; intro hb h; conv => whnf
  all_goals (cases h; exact Res.z rfl rfl rfl)
theorem ok50 (hS : SumsOK Try.prog (aget (sums50))) : SumOK Try.prog 50 (s50 (addr_RightF)) := by
  refine SumOK.of_leads tab_ok (fun ar os r ha hr => ?_) ⟨Try.f50, rfl, by decide, rfl⟩
  replace hr : r50 (addr_RightF) ar (conts os) = some r := hr
  unfold r50 at hr
  generalize hc : conts os = C at hr
  replace hr := dV.elim hr; obtain ⟨v0, l1, y0, rfl, e0, hr⟩ := hr; obtain rfl := uvapi_Addr_eq _ _ e0
  replace hr := dFin hr; obtain ⟨rfl, rfl, x, h, rfl⟩ := hr
  obtain rfl := kinds_nil hc
  exact ⟨_, rfl, leads50 hS _ x h⟩
def addr_Right : api_Addr → Option Bool := addr_RightF
theorem lift50 : SumOK Try.prog 50 (s50 addr_Right) := ok50 (SumsOK.of_tab trivial)
def addr_PutF (addr_Right : api_Addr → Option Bool) (octet_Put : Int → Int → Option (List UInt8)) (a : api_Addr) : Option (List UInt8) :=
  (addr_Right a).bind fun xr =>
  cond (!xr)
    (
    some ([]))
    (
    cond (a.V6)
      (
      (octet_Put a.Hi 8).bind fun p =>
      (octet_Put a.Lo 8).bind fun p1 =>
      oreq (decide (p.length + p1.length < 2 ^ 63)) <|
      some (p ++ p1))
      (
      (octet_Put a.Lo 4).bind fun p2 =>
      some (p2)))
def rx74 (x : List UInt8) : SRes := ⟨.string ⟨⟨x⟩⟩, [], []⟩
def r74 (g : api_Addr → Option (List UInt8)) : Dec := dV uvapi_Addr fun (y0 : api_Addr) => dEnd (ofG (g y0) rx74)
theorem r74_c {g : api_Addr → Option (List UInt8)} {y0 : api_Addr} {x : List UInt8} (hx : g y0 = some x) : r74 g [.agg ⟨[.bool y0.V6, .int .u64 y0.Hi, .int .u64 y0.Lo]⟩] [] = some (rx74 x) := (dV_eq (uvapi_Addr_c _)).trans (ofG_eq hx)
def s74 (g : api_Addr → Option (List UInt8)) : Summ := ⟨[.v], r74 g⟩
theorem r74_eq {g : api_Addr → Option (List UInt8)} {y0 : api_Addr} {x : List UInt8} (hx : g y0 = some x) : (s74 g).run [.agg ⟨[.bool y0.V6, .int .u64 y0.Hi, .int .u64 y0.Lo]⟩] [] = some (rx74 x) := r74_c hx
abbrev sums74 (addr_Right : api_Addr → Option Bool) (octet_Put : Int → Int → Option (List UInt8)) : List (Nat × Summ) := [(50, s50 addr_Right), (44, s44 octet_Put)]
theorem leads74 (addr_Right : api_Addr → Option Bool) (octet_Put : Int → Int → Option (List UInt8)) (hS : SumsOK Try.prog (aget (sums74 addr_Right octet_Put))) (a : api_Addr) (res : List UInt8) (h : addr_PutF addr_Right octet_Put a = some res) :
    Leads Try.prog 74 0 ⟨⟨74, 20, [(0, .agg ⟨[.bool a.V6, .int .u64 a.Hi, .int .u64 a.Lo]⟩)], [.code k74_15], [], false, none⟩, [], [], 0⟩ (fun v H _ => Res 0 (rx74 res) v H) := by
  unfold addr_PutF at h
  refine ev_ok tab_ok hS true 3000 ?_
  conv => whnf
  replace h := obind.elim h; obtain ⟨xr, hy, h⟩ := h
  refine sumK.q rfl rfl (r50_eq hy) rfl rfl rfl ?_
  conv => whnf
  refine br.h h ?_ ?_ ?_
  · rfl
  · clear h; intro hb h; conv => whnf
    all_goals (cases h; exact Res.z rfl rfl rfl)
  clear h; intro hb h; conv => whnf
  refine br.h2 h ?_ ?_ ?_
  · rfl
  · clear h; intro hb h; conv => whnf
    replace h := obind.elim h; obtain ⟨p2, hy, h⟩ := h
    refine sumK.q rfl rfl (r44_eq hy) rfl rfl rfl ?_
    conv => whnf
    all_goals (cases h; exact Res.z rfl rfl rfl)
  clear h; intro hb h; conv => whnf
  replace h := obind.elim h; obtain ⟨p, hy, h⟩ := h
  refine sumK.q rfl rfl (r44_eq hy) rfl rfl rfl ?_
  conv => whnf
  replace h := obind.elim h; obtain ⟨p1, hy, h⟩ := h
  refine sumK.q rfl rfl (r44_eq hy) rfl rfl rfl ?_
  conv => whnf
  replace h := oreq.elim h; obtain ⟨hb, h⟩ := h
  first | (refine req.intro hb ?_; conv => whnf) | skip
  all_goals (cases h; exact Res.z rfl rfl rfl)
theorem ok74 (addr_Right : api_Addr → Option Bool) (octet_Put : Int → Int → Option (List UInt8)) (hS : SumsOK Try.prog (aget (sums74 addr_Right octet_Put))) : SumOK Try.prog 74 (s74 (addr_PutF addr_Right octet_Put)) := by
  refine SumOK.of_leads tab_ok (fun ar os r ha hr => ?_) ⟨Try.f74, rfl, by decide, rfl⟩
  replace hr : r74 (addr_PutF addr_Right octet_Put) ar (conts os) = some r := hr
  unfold r74 at hr
  generalize hc : conts os = C at hr
  replace hr := dV.elim hr; obtain ⟨v0, l1, y0, rfl, e0, hr⟩ := hr; obtain rfl := uvapi_Addr_eq _ _ e0
  replace hr := dFin hr; obtain ⟨rfl, rfl, x, h, rfl⟩ := hr
  obtain rfl := kinds_nil hc
  exact ⟨_, rfl, leads74 addr_Right octet_Put hS _ x h⟩
def addr_Put : api_Addr → Option (List UInt8) := addr_PutF addr_Right octet_Put
theorem lift74 : SumOK Try.prog 74 (s74 addr_Put) := ok74 addr_Right octet_Put (SumsOK.of_tab ⟨lift50, lift44, trivial⟩)
def ipfour_row_s1 (octet_Put : Int → Int → Option (List UInt8)) (l : List Int) (i : Int) (c : List Int) : Option (Sum (Int × (List Int)) (List UInt8)) :=
  let t := decide ((wI .i64 (i + 1)) < (l.length : Int))
  cond (t)
    (
    oreq (decide ((0 : Int) ≤ i ∧ i < (l.length : Int))) <|
    (l[i.toNat]?).bind fun (e2 : Int) =>
    oreq (decide ((0 : Int) ≤ (wI .i64 (i + 1)) ∧ (wI .i64 (i + 1)) < (l.length : Int))) <|
    (l[(wI .i64 (i + 1)).toNat]?).bind fun (e3 : Int) =>
    (octet_Put (wI .u64 e2) e3).bind fun p1 =>
    oreq (decide ((c.length + p1.length) * 1 ≤ 2 ^ 47)) <|
    let row := c ++ (bI p1)
    some (.inl (wI .i64 (i + 2), row)))
    (
    oreq (decide (c.length < 2 ^ 63)) <|
    some (.inr (iB c)))
def ipfour_rowF (octet_Put : Int → Int → Option (List UInt8)) (l : List Int) : Option (List UInt8) :=
  cond (decide (1 < (l.length : Int)))
    (
    oreq (decide ((0 : Int) ≤ (0 : Int) ∧ (0 : Int) < (l.length : Int))) <|
    (l[0]?).bind fun (e : Int) =>
    oreq (decide ((0 : Int) ≤ (1 : Int) ∧ (1 : Int) < (l.length : Int))) <|
    (l[1]?).bind fun (e1 : Int) =>
    (octet_Put (wI .u64 e) e1).bind fun p =>
    oreq (decide (p.length * 1 ≤ 2 ^ 47)) <|
    iter (fun st => ipfour_row_s1 octet_Put l st.1 st.2) FUEL (2, bI p))
    (
    some ([]))
def rx75 (x : List UInt8) : SRes := ⟨.string ⟨⟨x⟩⟩, [], [none]⟩
def r75 (g : (List Int) → Option (List UInt8)) : Dec := dSl 0 1 (unL (asI .i64)) fun (y0 : List Int) => dEnd (ofG (g y0) rx75)
theorem r75_c {g : (List Int) → Option (List UInt8)} {y0 : List Int} {x : List UInt8} (hx : g y0 = some x) : r75 g [.slice (some ⟨0, 0, none⟩) y0.length 1] [some (vI .i64 y0)] = some (rx75 x) := (dSl_eq (unI_vI _ _)).trans (ofG_eq hx)
def s75 (g : (List Int) → Option (List UInt8)) : Summ := ⟨[.sl 1], r75 g⟩
theorem r75_eq {g : (List Int) → Option (List UInt8)} {y0 : List Int} {x : List UInt8} (hx : g y0 = some x) : (s75 g).run [.slice (some ⟨0, 0, none⟩) y0.length 1] [some (vI .i64 y0)] = some (rx75 x) := r75_c hx
abbrev sums75 (octet_Put : Int → Int → Option (List UInt8)) : List (Nat × Summ) := [(44, s44 octet_Put)]
def head75_1 (l : List Int) (i : Int) (c : List Int) : VM :=
  ⟨⟨75, 25, [(0, .slice (some ⟨0, 0, none⟩) l.length 1), (3, .pointer (some ⟨1, 0, none⟩)), (4, .int .i64 i)], [.code k75_10, .inLoop k75_10, .inBlock 0, .code k75_15], [], false, none⟩, [], [(0, .row false (vI .i64 l)), (1, .ty 103 [.pointer (some ⟨1, 0, none⟩), .func (.method "") ⟨[.slice (some ⟨12, 0, none⟩) c.length 1]⟩ ⟨[]⟩]), (12, .ty 5 (vI .u8 c))], 13⟩
theorem loop75_1 (octet_Put : Int → Int → Option (List UInt8)) (hS : SumsOK Try.prog (aget (sums75 octet_Put))) (l : List Int) (res : List UInt8) : ∀ fuel (st : Int × (List Int)) (o : List UInt8), iter (fun st => ipfour_row_s1 octet_Put l st.1 st.2) fuel st = some o → (o = res) →
    Leads Try.prog 75 1 (head75_1 l st.1 st.2) (fun v H _ => Res 1 (rx75 res) v H) := by
  intro fuel st o h hc
  refine iter_leads (head := fun st => head75_1 l st.1 st.2) (C := fun o => (o = res)) ?_ fuel st o h hc
  clear h hc o st fuel
  intro st o h hc
  obtain ⟨i, c⟩ := st
  replace h : ipfour_row_s1 octet_Put l i c = some o := h
  show Leads Try.prog 75 1 (head75_1 l i c) (fun v H _ => Res 1 (rx75 res) v H)
  unfold ipfour_row_s1 at h
  refine ev_ok tab_ok hS true 3000 ?_
  conv => whnf
  let t : Bool := decide ((wI .i64 (i + 1)) < (l.length : Int))
  refine br.h2 h ?_ ?_ ?_
  · rfl
  · clear h; intro hb h; conv => whnf
    replace h := oreq.elim h; obtain ⟨hb, h⟩ := h
    refine req.intro (us_req rfl (by first | rfl | (simp; done)) (by first | rfl | omega | (simp; done) | (simp; omega) | (simp at *; omega)) (of_decide_eq_true hb)) ?_
    conv => whnf
    refine pk_us ?_
    conv => whnf
    all_goals (cases h; cases hc)
    all_goals exact Res.of [] rfl nw_0 (by decide) js_0 (wr_n wr_0)
  clear h; intro hb h; conv => whnf
  replace h := oreq.elim h; obtain ⟨hb, h⟩ := h
  first | (refine req.intro hb ?_; conv => whnf) | skip
  replace h := obind.elim h; obtain ⟨e2, hy, h⟩ := h
  refine rd.I hy (by first | rfl | (rw [Nat.zero_add, Nat.mul_one]; try rfl; done) | omega) ?_
  conv => whnf
  replace h := oreq.elim h; obtain ⟨hb, h⟩ := h
  first | (refine req.intro hb ?_; conv => whnf) | skip
  replace h := obind.elim h; obtain ⟨e3, hy, h⟩ := h
  refine rd.I hy (by first | rfl | (rw [Nat.zero_add, Nat.mul_one]; try rfl; done) | omega) ?_
  conv => whnf
  replace h := obind.elim h; obtain ⟨p1, hy, h⟩ := h
  refine sumK.q rfl rfl (r44_eq hy) rfl rfl rfl ?_
  conv => whnf
  replace h := oreq.elim h; obtain ⟨hb, h⟩ := h
  refine req.intro (apb_req (of_decide_eq_true hb) (by first | rfl | omega | (simp; done) | (simp; omega) | (simp at *; omega)) rfl rfl (by first | rfl | omega | (simp; done) | (simp; omega) | (simp at *; omega)) (by first | rfl | exact vI_one _ _ | exact vS_one _ | exact vB_one _ | exact vT_one (by first | exact capi_Addr_one | exact capi_Tuple_one | exact cquic_Head_one | exact capi_Packet_one | exact cpacket_outer_one | exact cipfour_Head_one | exact coctet_Reader_one | exact cipsix_Head_one | exact ctcp_Head_one | exact ctcp_Opt_one | exact cudp_Head_one) _ | (rw [ofBytes_vI]; exact vI_one _ _) | simp [vI_one, vS_one, vB_one, vI_drop, vI_take, vS_drop, vS_take]) rfl) ?_
  conv => whnf
  let row : List Int := c ++ (bI p1)
  refine pk_apW (xs := c) (ys := bI p1) (ofBytes_vI _) (by first | (simp; done) | (simp; omega)) (by first | (simp; done) | (simp; omega)) ?_
  conv => whnf
  cases h; simp only [Sum.elim_inl, head75_1] at hc
  refine Leads.re hc [(0, 0), (1, 1), (12, 23)] rfl ?_ ?_ <;> (repeat' first | exact trivial | refine ⟨⟨_, rfl, rfl⟩, ?_⟩ | refine ⟨⟨_, _, rfl, rfl, .rowF (vI_flat _ _) id⟩, ?_⟩ | refine ⟨⟨_, _, rfl, rfl, .rowF (vS_flat _) id⟩, ?_⟩ | refine ⟨⟨_, _, rfl, rfl, .rowF (vB_flat _) id⟩, ?_⟩ | refine ⟨⟨_, _, rfl, rfl, .rowF (vT_flat (by first | exact capi_Addr_flat | exact capi_Tuple_flat | exact cquic_Head_flat | exact capi_Packet_flat | exact cpacket_outer_flat | exact cipfour_Head_flat | exact coctet_Reader_flat | exact cipsix_Head_flat | exact ctcp_Head_flat | exact ctcp_Opt_flat | exact cudp_Head_flat) _) id⟩, ?_⟩ | refine ⟨⟨_, _, rfl, rfl, .tyF (vI_flat _ _)⟩, ?_⟩ | refine ⟨⟨_, _, rfl, rfl, .ty rfl⟩, ?_⟩ | refine ⟨⟨_, _, rfl, rfl, .cells rfl⟩, ?_⟩ | refine ⟨⟨_, _, rfl, rfl, .row rfl id⟩, ?_⟩ | refine ⟨⟨_, _, rfl, rfl, .cr rfl⟩, ?_⟩ | refine ⟨⟨_, _, rfl, rfl, .rc rfl⟩, ?_⟩ | refine ⟨⟨_, _, rfl, rfl, .marks⟩, ?_⟩ | refine ⟨⟨_, _, rfl, rfl, .siter _ _⟩, ?_⟩ | refine ⟨⟨_, _, rfl, rfl, .loop rfl rfl rfl rfl (by repeat' first | exact trivial | refine ⟨rfl, ?_⟩) rfl rfl rfl rfl⟩, ?_⟩)
theorem leads75 (octet_Put : Int → Int → Option (List UInt8)) (hS : SumsOK Try.prog (aget (sums75 octet_Put))) (l : List Int) (res : List UInt8) (h : ipfour_rowF octet_Put l = some res) :
    Leads Try.prog 75 1 ⟨⟨75, 25, [(0, .slice (some ⟨0, 0, none⟩) l.length 1)], [.code k75_18], [], false, none⟩, [], [(0, .row false (vI .i64 l))], 1⟩ (fun v H _ => Res 1 (rx75 res) v H) := by
  unfold ipfour_rowF at h
  refine ev_ok tab_ok hS true 3000 ?_
  conv => whnf
  refine ev_ok tab_ok hS true 3000 ?_
  conv => whnf
  refine br.h2 h ?_ ?_ ?_
  · rfl
  · clear h; intro hb h; conv => whnf
    all_goals (cases h)
    all_goals exact Res.of [] rfl nw_0 (by decide) js_0 (wr_n wr_0)
  clear h; intro hb h; conv => whnf
  replace h := oreq.elim h; obtain ⟨hb, h⟩ := h
  first | (refine req.intro hb ?_; conv => whnf) | skip
  replace h := obind.elim h; obtain ⟨e, hy, h⟩ := h
  refine rd.I hy (by first | rfl | (rw [Nat.zero_add, Nat.mul_one]; try rfl; done) | omega) ?_
  conv => whnf
  replace h := oreq.elim h; obtain ⟨hb, h⟩ := h
  first | (refine req.intro hb ?_; conv => whnf) | skip
  replace h := obind.elim h; obtain ⟨e1, hy, h⟩ := h
  refine rd.I hy (by first | rfl | (rw [Nat.zero_add, Nat.mul_one]; try rfl; done) | omega) ?_
  conv => whnf
  replace h := obind.elim h; obtain ⟨p, hy, h⟩ := h
  refine sumK.q rfl rfl (r44_eq hy) rfl rfl rfl ?_
  conv => whnf
  replace h := oreq.elim h; obtain ⟨hb, h⟩ := h
  refine req.intro (ap0b_req (of_decide_eq_true hb) (by first | rfl | omega | (simp; done) | (simp; omega) | (simp at *; omega)) rfl rfl) ?_
  conv => whnf
  refine pk_ap0I (ys := bI p) (ofBytes_vI _) (by first | rfl | (simp; done) | (simp; omega)) ?_
  conv => whnf
  have hl := loop75_1 octet_Put hS _ res _ _ _ h rfl; simp only [head75_1] at hl
  refine Leads.re hl [(0, 0), (1, 1), (12, 12)] rfl ?_ ?_ <;> (repeat' first | exact trivial | refine ⟨⟨_, rfl, rfl⟩, ?_⟩ | refine ⟨⟨_, _, rfl, rfl, .rowF (vI_flat _ _) id⟩, ?_⟩ | refine ⟨⟨_, _, rfl, rfl, .rowF (vS_flat _) id⟩, ?_⟩ | refine ⟨⟨_, _, rfl, rfl, .rowF (vB_flat _) id⟩, ?_⟩ | refine ⟨⟨_, _, rfl, rfl, .rowF (vT_flat (by first | exact capi_Addr_flat | exact capi_Tuple_flat | exact cquic_Head_flat | exact capi_Packet_flat | exact cpacket_outer_flat | exact cipfour_Head_flat | exact coctet_Reader_flat | exact cipsix_Head_flat | exact ctcp_Head_flat | exact ctcp_Opt_flat | exact cudp_Head_flat) _) id⟩, ?_⟩ | refine ⟨⟨_, _, rfl, rfl, .tyF (vI_flat _ _)⟩, ?_⟩ | refine ⟨⟨_, _, rfl, rfl, .ty rfl⟩, ?_⟩ | refine ⟨⟨_, _, rfl, rfl, .cells rfl⟩, ?_⟩ | refine ⟨⟨_, _, rfl, rfl, .row rfl id⟩, ?_⟩ | refine ⟨⟨_, _, rfl, rfl, .cr rfl⟩, ?_⟩ | refine ⟨⟨_, _, rfl, rfl, .rc rfl⟩, ?_⟩ | refine ⟨⟨_, _, rfl, rfl, .marks⟩, ?_⟩ | refine ⟨⟨_, _, rfl, rfl, .siter _ _⟩, ?_⟩ | refine ⟨⟨_, _, rfl, rfl, .loop rfl rfl rfl rfl (by repeat' first | exact trivial | refine ⟨rfl, ?_⟩) rfl rfl rfl rfl⟩, ?_⟩)
theorem ok75 (octet_Put : Int → Int → Option (List UInt8)) (hS : SumsOK Try.prog (aget (sums75 octet_Put))) : SumOK Try.prog 75 (s75 (ipfour_rowF octet_Put)) := by
  refine SumOK.of_leads tab_ok (fun ar os r ha hr => ?_) ⟨Try.f75, rfl, by decide, rfl⟩
  replace hr : r75 (ipfour_rowF octet_Put) ar (conts os) = some r := hr
  unfold r75 at hr
  generalize hc : conts os = C at hr
  have hq := dSl.elim hr; clear hr; obtain ⟨c0, l1, C, y0, rfl, rfl, e0, hr⟩ := hq; obtain rfl := unI_eq e0
  replace hr := dFin hr; obtain ⟨rfl, rfl, x, h, rfl⟩ := hr
  obtain ⟨os, rfl, ha, hc⟩ := kinds_some ha hc
  obtain rfl := kinds_nil hc
  exact ⟨_, rfl, leads75 octet_Put hS _ x h⟩
def ipfour_row : (List Int) → Option (List UInt8) := ipfour_rowF octet_Put
theorem lift75 : SumOK Try.prog 75 (s75 ipfour_row) := ok75 octet_Put (SumsOK.of_tab ⟨lift44, trivial⟩)
def ipfour_PseudoF (addr_Put : api_Addr → Option (List UInt8)) (addr_Right : api_Addr → Option Bool) (ipfour_row : (List Int) → Option (List UInt8)) (src : api_Addr) (dst : api_Addr) (proto : Int) (n : Int) : Option (List UInt8) :=
  (addr_Right src).bind fun xr =>
  cond (!xr)
    (
    some ([]))
    (
    (addr_Right dst).bind fun xr1 =>
    cond (!xr1)
      (
      some ([]))
      (
      cond (!(src.V6 == dst.V6))
        (
        some ([]))
        (
        (addr_Put src).bind fun p =>
        (addr_Put dst).bind fun p1 =>
        oreq (decide (p.length + p1.length < 2 ^ 63)) <|
        cond (src.V6)
          (
          (ipfour_row [n, 4, 0, 3, proto, 1]).bind fun xr2 =>
          oreq (decide ((p ++ p1).length + xr2.length < 2 ^ 63)) <|
          some ((p ++ p1) ++ xr2))
          (
          (ipfour_row [0, 1, proto, 1, n, 2]).bind fun xr3 =>
          oreq (decide ((p ++ p1).length + xr3.length < 2 ^ 63)) <|
          some ((p ++ p1) ++ xr3)))))
def rx46 (x : List UInt8) : SRes := ⟨.string ⟨⟨x⟩⟩, [], []⟩
def r46 (g : api_Addr → api_Addr → Int → Int → Option (List UInt8)) : Dec := dV uvapi_Addr fun (y0 : api_Addr) => dV uvapi_Addr fun (y1 : api_Addr) => dV (asI .i64) fun (y2 : Int) => dV (asI .i64) fun (y3 : Int) => dEnd (ofG (g y0 y1 y2 y3) rx46)
theorem r46_c {g : api_Addr → api_Addr → Int → Int → Option (List UInt8)} {y0 : api_Addr} {y1 : api_Addr} {y2 : Int} {y3 : Int} {x : List UInt8} (hx : g y0 y1 y2 y3 = some x) : r46 g [.agg ⟨[.bool y0.V6, .int .u64 y0.Hi, .int .u64 y0.Lo]⟩, .agg ⟨[.bool y1.V6, .int .u64 y1.Hi, .int .u64 y1.Lo]⟩, .int .i64 y2, .int .i64 y3] [] = some (rx46 x) := (dV_eq (uvapi_Addr_c _)).trans ((dV_eq (uvapi_Addr_c _)).trans ((dV_eq (asI_c _)).trans ((dV_eq (asI_c _)).trans (ofG_eq hx))))
def s46 (g : api_Addr → api_Addr → Int → Int → Option (List UInt8)) : Summ := ⟨[.v, .v, .v, .v], r46 g⟩
theorem r46_eq {g : api_Addr → api_Addr → Int → Int → Option (List UInt8)} {y0 : api_Addr} {y1 : api_Addr} {y2 : Int} {y3 : Int} {x : List UInt8} (hx : g y0 y1 y2 y3 = some x) : (s46 g).run [.agg ⟨[.bool y0.V6, .int .u64 y0.Hi, .int .u64 y0.Lo]⟩, .agg ⟨[.bool y1.V6, .int .u64 y1.Hi, .int .u64 y1.Lo]⟩, .int .i64 y2, .int .i64 y3] [] = some (rx46 x) := r46_c hx
abbrev sums46 (addr_Put : api_Addr → Option (List UInt8)) (addr_Right : api_Addr → Option Bool) (ipfour_row : (List Int) → Option (List UInt8)) : List (Nat × Summ) := [(74, s74 addr_Put), (50, s50 addr_Right), (75, s75 ipfour_row)]
theorem leads46 (addr_Put : api_Addr → Option (List UInt8)) (addr_Right : api_Addr → Option Bool) (ipfour_row : (List Int) → Option (List UInt8)) (hS : SumsOK Try.prog (aget (sums46 addr_Put addr_Right ipfour_row))) (src : api_Addr) (dst : api_Addr) (proto : Int) (n : Int) (res : List UInt8) (h : ipfour_PseudoF addr_Put addr_Right ipfour_row src dst proto n = some res) :
    Leads Try.prog 46 0 ⟨⟨46, 44, [(0, .agg ⟨[.bool src.V6, .int .u64 src.Hi, .int .u64 src.Lo]⟩), (1, .agg ⟨[.bool dst.V6, .int .u64 dst.Hi, .int .u64 dst.Lo]⟩), (2, .int .i64 proto), (3, .int .i64 n)], [.code k46_17], [], false, none⟩, [], [], 0⟩ (fun v H _ => Res 0 (rx46 res) v H) := by
  unfold ipfour_PseudoF at h
  refine ev_ok tab_ok hS true 3000 ?_
  conv => whnf
  replace h := obind.elim h; obtain ⟨xr, hy, h⟩ := h
  refine sumK.q rfl rfl (r50_eq hy) rfl rfl rfl ?_
  conv => whnf
  refine br.h h ?_ ?_ ?_
  · rfl
  · clear h; intro hb h; conv => whnf
    all_goals (cases h; exact Res.z rfl rfl rfl)
  clear h; intro hb h; conv => whnf
  replace h := obind.elim h; obtain ⟨xr1, hy, h⟩ := h
  refine sumK.q rfl rfl (r50_eq hy) rfl rfl rfl ?_
  conv => whnf
  refine br.h h ?_ ?_ ?_
  · rfl
  · clear h; intro hb h; conv => whnf
    all_goals (cases h; exact Res.z rfl rfl rfl)
  clear h; intro hb h; conv => whnf
  refine br.h h ?_ ?_ ?_
  · rfl
  · clear h; intro hb h; conv => whnf
    all_goals (cases h; exact Res.z rfl rfl rfl)
  clear h; intro hb h; conv => whnf
  replace h := obind.elim h; obtain ⟨p, hy, h⟩ := h
  refine sumK.q rfl rfl (r74_eq hy) rfl rfl rfl ?_
  conv => whnf
  replace h := obind.elim h; obtain ⟨p1, hy, h⟩ := h
  refine sumK.q rfl rfl (r74_eq hy) rfl rfl rfl ?_
  conv => whnf
  replace h := oreq.elim h; obtain ⟨hb, h⟩ := h
  first | (refine req.intro hb ?_; conv => whnf) | skip
  refine br.h h ?_ ?_ ?_
  · rfl
  · clear h; intro hb h; conv => whnf
    replace h := obind.elim h; obtain ⟨xr2, hy, h⟩ := h
    refine sumK.introF [] (sumRun_of (aqs := [.slice (some ⟨0, 0, none⟩) ([n, 4, 0, 3, proto, 1] : List Int).length 1]) (ws := [.win 5 0 (6 * 1) false]) (n := 0) (m := 0) (t' := 6) (ra_cons (by first | rfl | exact ra_allI rfl rfl (by first | rfl | omega) (by first | rfl | (simp; done)) | exact ra_slI rfl rfl (by first | rfl | omega) (by first | rfl | omega) (by first | omega | (simp at *; omega))) rfl ra_nil) rfl (by rfl) (r75_eq hy) rfl rfl rfl rfl (wb_skip rfl wb_nil) an_nil rfl) ?_
    conv => whnf
    replace h := oreq.elim h; obtain ⟨hb, h⟩ := h
    first | (refine req.intro hb ?_; conv => whnf) | skip
    all_goals (cases h; exact Res.z rfl rfl rfl)
  clear h; intro hb h; conv => whnf
  replace h := obind.elim h; obtain ⟨xr3, hy, h⟩ := h
  refine sumK.introF [] (sumRun_of (aqs := [.slice (some ⟨0, 0, none⟩) ([0, 1, proto, 1, n, 2] : List Int).length 1]) (ws := [.win 5 0 (6 * 1) false]) (n := 0) (m := 0) (t' := 6) (ra_cons (by first | rfl | exact ra_allI rfl rfl (by first | rfl | omega) (by first | rfl | (simp; done)) | exact ra_slI rfl rfl (by first | rfl | omega) (by first | rfl | omega) (by first | omega | (simp at *; omega))) rfl ra_nil) rfl (by rfl) (r75_eq hy) rfl rfl rfl rfl (wb_skip rfl wb_nil) an_nil rfl) ?_
  conv => whnf
  replace h := oreq.elim h; obtain ⟨hb, h⟩ := h
  first | (refine req.intro hb ?_; conv => whnf) | skip
  all_goals (cases h; exact Res.z rfl rfl rfl)
theorem ok46 (addr_Put : api_Addr → Option (List UInt8)) (addr_Right : api_Addr → Option Bool) (ipfour_row : (List Int) → Option (List UInt8)) (hS : SumsOK Try.prog (aget (sums46 addr_Put addr_Right ipfour_row))) : SumOK Try.prog 46 (s46 (ipfour_PseudoF addr_Put addr_Right ipfour_row)) := by
  refine SumOK.of_leads tab_ok (fun ar os r ha hr => ?_) ⟨Try.f46, rfl, by decide, rfl⟩
  replace hr : r46 (ipfour_PseudoF addr_Put addr_Right ipfour_row) ar (conts os) = some r := hr
  unfold r46 at hr
  generalize hc : conts os = C at hr
  replace hr := dV.elim hr; obtain ⟨v0, l1, y0, rfl, e0, hr⟩ := hr; obtain rfl := uvapi_Addr_eq _ _ e0
  replace hr := dV.elim hr; obtain ⟨v1, l2, y1, rfl, e1, hr⟩ := hr; obtain rfl := uvapi_Addr_eq _ _ e1
  replace hr := dV.elim hr; obtain ⟨v2, l3, y2, rfl, e2, hr⟩ := hr; obtain rfl := asI_eq _ _ _ e2
  replace hr := dV.elim hr; obtain ⟨v3, l4, y3, rfl, e3, hr⟩ := hr; obtain rfl := asI_eq _ _ _ e3
  replace hr := dFin hr; obtain ⟨rfl, rfl, x, h, rfl⟩ := hr
  obtain rfl := kinds_nil hc
  exact ⟨_, rfl, leads46 addr_Put addr_Right ipfour_row hS _ _ _ _ x h⟩
def ipfour_Pseudo : api_Addr → api_Addr → Int → Int → Option (List UInt8) := ipfour_PseudoF addr_Put addr_Right ipfour_row
theorem lift46 : SumOK Try.prog 46 (s46 ipfour_Pseudo) := ok46 addr_Put addr_Right ipfour_row (SumsOK.of_tab ⟨lift74, lift50, lift75, trivial⟩)
end Go.Vm.Code
namespace Go.Vm.Code
open Go Go.Vm
def A4 (a : api_Addr) : Prop := 0 ≤ a.Hi ∧ a.Hi < 2 ^ 64 ∧ 0 ≤ a.Lo ∧ a.Lo < 2 ^ 64
def aok (a : api_Addr) : Bool := a.V6 || (a.Hi == 0 && decide (a.Lo < 4294967296))
theorem aRight_eq (a : api_Addr) : addr_Right a = some (aok a) := by
  unfold addr_Right addr_RightF aok
  cases a.V6
  · cases (a.Hi == 0) <;> rfl
  · rfl
def abytes (a : api_Addr) : List UInt8 := cond a.V6 (be a.Hi.toNat 8 ++ be a.Lo.toNat 8) (be a.Lo.toNat 4)
theorem abytes_len (a : api_Addr) : (abytes a).length = cond a.V6 16 4 := by unfold abytes; cases a.V6 <;> simp
theorem putS_be {n : Int} {k : Nat} (h : 1 ≤ k ∧ k ≤ 8) : putS n (k : Int) = be n.toNat k := by unfold putS; rw [if_pos (by omega)]; rfl
theorem aPut_eq {a : api_Addr} (h : A4 a) (hr : aok a = true) : addr_Put a = some (abytes a) := by
  obtain ⟨h1, h2, h3, h4⟩ := h
  unfold addr_Put addr_PutF abytes
  rw [aRight_eq, Option.bind_some, hr]
  simp only [Bool.not_true, cond_false]
  cases a.V6
  · simp only [cond_false]
    rw [octet_Put_eq h3, Option.bind_some, show (4 : Int) = ((4 : Nat) : Int) from rfl, putS_be (by omega)]
  · simp only [cond_true]
    rw [octet_Put_eq h1, Option.bind_some, octet_Put_eq h3, Option.bind_some, show (8 : Int) = ((8 : Nat) : Int) from rfl, putS_be (by omega), putS_be (by omega), oreq_p (by simp)]
theorem putS_len (n k : Int) : (putS n k).length ≤ 8 := by unfold putS; split <;> simp <;> omega
theorem iB_bI (s : List UInt8) : iB (bI s) = s := by simp [iB, bI, List.map_map, Function.comp_def]
theorem iB_app (a b : List Int) : iB (a ++ b) = iB a ++ iB b := by simp [iB]
theorem bI_app (a b : List UInt8) : bI (a ++ b) = bI a ++ bI b := by simp [bI]
theorem iter_inl {σ ρ : Type} {f : σ → Option (Sum σ ρ)} {n : Nat} {s s' : σ} (h : f s = some (.inl s')) : iter f (n + 1) s = iter f n s' := by rw [iter, h]
theorem iter_inr {σ ρ : Type} {f : σ → Option (Sum σ ρ)} {n : Nat} {s : σ} {r : ρ} (h : f s = some (.inr r)) : iter f (n + 1) s = some r := by rw [iter, h]
theorem FUEL_succ : ∃ n, FUEL = n + 8 := ⟨18446744073709551608, rfl⟩
theorem row_eq {a b c d e f : Int} (ha : 0 ≤ a) (hc : 0 ≤ c) (he : 0 ≤ e) (ha1 : a < 2 ^ 63) (hc1 : c < 2 ^ 63) (he1 : e < 2 ^ 63) : ipfour_row [a, b, c, d, e, f] = some (putS a b ++ putS c d ++ putS e f) := by
  have l1 := putS_len a b
  have l2 := putS_len c d
  have l3 := putS_len e f
  unfold ipfour_row ipfour_rowF
  rw [cond_p (by simp), oreq_p (by simp)]
  show ((some a).bind _) = _
  rw [Option.bind_some, oreq_p (by simp)]
  show ((some b).bind _) = _
  rw [Option.bind_some, wU64 ha (by omega), octet_Put_eq ha, Option.bind_some, oreq_p (by omega)]
  obtain ⟨n, hn⟩ := FUEL_succ
  rw [hn]
  have s1 : ipfour_row_s1 octet_Put [a, b, c, d, e, f] 2 (bI (putS a b)) = some (.inl (4, bI (putS a b ++ putS c d))) := by
    unfold ipfour_row_s1
    simp only []
    rw [cond_p (by rw [show wI .i64 (2 + 1) = 3 from rfl]; simp), oreq_p (by simp)]
    show ((some c).bind _) = _
    rw [Option.bind_some, oreq_p (by rw [show wI .i64 (2 + 1) = 3 from rfl]; simp)]
    show ((some d).bind _) = _
    rw [Option.bind_some, wU64 hc (by omega), octet_Put_eq hc, Option.bind_some, oreq_p (by simp; omega), bI_app]; rfl
  have s2 : ipfour_row_s1 octet_Put [a, b, c, d, e, f] 4 (bI (putS a b ++ putS c d)) = some (.inl (6, bI (putS a b ++ putS c d ++ putS e f))) := by
    unfold ipfour_row_s1
    simp only []
    rw [cond_p (by rw [show wI .i64 (4 + 1) = 5 from rfl]; simp), oreq_p (by simp)]
    show ((some e).bind _) = _
    rw [Option.bind_some, oreq_p (by rw [show wI .i64 (4 + 1) = 5 from rfl]; simp)]
    show ((some f).bind _) = _
    rw [Option.bind_some, wU64 he (by omega), octet_Put_eq he, Option.bind_some, oreq_p (by simp; omega), bI_app (putS a b ++ putS c d)]; rfl
  have s3 : ipfour_row_s1 octet_Put [a, b, c, d, e, f] 6 (bI (putS a b ++ putS c d ++ putS e f)) = some (.inr (putS a b ++ putS c d ++ putS e f)) := by
    unfold ipfour_row_s1
    simp only []
    rw [cond_n (by rw [show wI .i64 (6 + 1) = 7 from rfl]; simp), oreq_p (by simp; omega), iB_bI]
  rw [iter_inl (f := fun (st : Int × List Int) => ipfour_row_s1 octet_Put [a, b, c, d, e, f] st.1 st.2) (n := n + 7) s1, iter_inl (n := n + 6) s2, iter_inr (n := n + 5) s3]
def pseu (src dst : api_Addr) (p n : Int) : List UInt8 :=
  if aok src = true ∧ aok dst = true ∧ src.V6 = dst.V6 then abytes src ++ abytes dst ++ cond src.V6 (putS n 4 ++ putS 0 3 ++ putS p 1) (putS 0 1 ++ putS p 1 ++ putS n 2) else []
theorem pseu_len (src dst : api_Addr) (p n : Int) : (pseu src dst p n).length ≤ 56 := by
  have l1 := putS_len n 4
  have l2 := putS_len 0 3
  have l3 := putS_len p 1
  have l4 := putS_len 0 1
  have l5 := putS_len n 2
  unfold pseu
  split
  · rw [List.length_append, List.length_append, abytes_len, abytes_len]
    cases src.V6 <;> cases dst.V6 <;> simp <;> omega
  · simp
theorem pseudo_eq {src dst : api_Addr} {p n : Int} (h1 : A4 src) (h2 : A4 dst) (hp : 0 ≤ p ∧ p < 2 ^ 63) (hn : 0 ≤ n ∧ n < 2 ^ 63) : ipfour_Pseudo src dst p n = some (pseu src dst p n) := by
  unfold ipfour_Pseudo ipfour_PseudoF pseu
  rw [aRight_eq, aRight_eq, Option.bind_some]
  cases e1 : aok src
  · simp
  simp only [Bool.not_true, cond_false, Option.bind_some]
  cases e2 : aok dst
  · simp
  simp only [Bool.not_true, cond_false]
  by_cases e3 : src.V6 = dst.V6
  · rw [if_pos (by simpa using e3), show (src.V6 == dst.V6) = true by simpa using e3]
    simp only [Bool.not_true, cond_false]
    have l1 := abytes_len src
    have l2 := abytes_len dst
    rw [aPut_eq h1 e1, Option.bind_some, aPut_eq h2 e2, Option.bind_some, oreq_p (by rw [l1, l2]; cases src.V6 <;> cases dst.V6 <;> decide)]
    rw [row_eq hn.1 (by omega) hp.1 hn.2 (by omega) hp.2, row_eq (by omega) hp.1 hn.1 (by omega) hp.2 hn.2]
    have m1 := putS_len n 4
    have m2 := putS_len 0 3
    have m3 := putS_len p 1
    have m4 := putS_len 0 1
    have m5 := putS_len n 2
    have b1 : (abytes src).length ≤ 16 := by rw [l1]; cases src.V6 <;> decide
    have b2 : (abytes dst).length ≤ 16 := by rw [l2]; cases dst.V6 <;> decide
    cases src.V6
    · simp only [cond_false, Option.bind_some]
      rw [oreq_p (by simp only [List.length_append]; omega)]
    · simp only [cond_true, Option.bind_some]
      rw [oreq_p (by simp only [List.length_append]; omega)]
  · rw [if_neg (fun h => e3 h.2.2), show (src.V6 == dst.V6) = false by simpa using e3]; rfl
theorem wU64_rng (n : Int) : 0 ≤ wI .u64 n ∧ wI .u64 n < 2 ^ 64 := by rw [wU64m]; omega
def rowS : List Int → List UInt8
  | a :: b :: l => putS (wI .u64 a) b ++ rowS l
  | _ => []
theorem rowG_eq {l : List Int} (he : l.length % 2 = 0) (h2 : 2 ≤ l.length) (hl : l.length ≤ 1000) : ipfour_row l = some (rowS l) := by
  unfold ipfour_row ipfour_rowF
  obtain ⟨a, b, r, rfl⟩ : ∃ a b r, l = a :: b :: r := by
    match l, h2 with
    | a :: b :: r, _ => exact ⟨a, b, r, rfl⟩
  have p0 := putS_len (wI .u64 a) b
  rw [cond_p (by simp; omega), oreq_p (by simp; omega)]
  show ((some a).bind _) = _
  rw [Option.bind_some, oreq_p (by simp; omega)]
  show ((some b).bind _) = _
  rw [Option.bind_some, octet_Put_eq (wU64_rng a).1, Option.bind_some, oreq_p (by omega)]
  generalize hL : a :: b :: r = L at *
  have key := iter_eq (step := fun (st : Int × List Int) => ipfour_row_s1 octet_Put L st.1 st.2) (fun st => iB st.2 ++ rowS (L.drop st.1.toNat)) (fun st => 0 ≤ st.1 ∧ st.1 ≤ L.length ∧ st.1.toNat % 2 = 0 ∧ st.2.length ≤ 8 * st.1.toNat) (fun st => (L.length - st.1).toNat) ?_ FUEL (2, bI (putS (wI .u64 a) b)) ⟨by simp, by simp only; omega, by simp, by simp; omega⟩ (by rw [FUEL_eq]; simp only; omega)
  · rw [key]
    simp only [iB_bI]
    subst hL; rfl
  rintro ⟨p, c⟩ ⟨g1, g2, g3, g4⟩
  simp only at g1 g2 g3 g4 ⊢
  obtain ⟨i, rfl⟩ := Int.eq_ofNat_of_zero_le g1
  simp only [Int.toNat_natCast] at g3 g4 ⊢
  unfold ipfour_row_s1
  simp only []
  rw [wI64 (n := (i : Int) + 1) (by omega) (by omega)]
  by_cases hi : i < L.length
  · have hi1 : i + 1 < L.length := by omega
    have pl := putS_len (wI .u64 L[i]) L[i + 1]
    refine .inr ⟨(((i + 2 : Nat) : Int), c ++ bI (putS (wI .u64 L[i]) L[i + 1])), ?_, ⟨by simp only; omega, by simp only; omega, by simp only [Int.toNat_natCast]; omega, by simp; omega⟩, by simp only; omega, ?_⟩
    · rw [cond_p (by omega), oreq_p (by omega), Int.toNat_natCast, List.getElem?_eq_getElem hi, Option.bind_some, oreq_p (by omega), show ((i : Int) + 1).toNat = i + 1 by omega, List.getElem?_eq_getElem hi1, Option.bind_some, octet_Put_eq (wU64_rng _).1, Option.bind_some, oreq_p (by omega), wI64 (by omega) (by omega)]; rfl
    · simp only [Int.toNat_natCast]
      rw [iB_app, iB_bI, List.drop_eq_getElem_cons hi, List.drop_eq_getElem_cons hi1, rowS]; simp
  · refine .inl ?_
    rw [cond_n (by omega), oreq_p (by omega), List.drop_eq_nil_of_le (by omega)]; simp [rowS]
end Go.Vm.Code
namespace Go.Vm.Code
open Go Go.Vm Go.Proofs
set_option maxRecDepth 100000
set_option maxHeartbeats 4000000
set_option linter.unusedVariables false
def octet_Reader_BadF (ra0 : octet_Reader) : Option (Bool × octet_Reader) :=
  cond (!ra0.made)
    (
    some ((true, ra0)))
    (
    some ((ra0.bad, ra0)))
def rx105 (x : Bool × octet_Reader) : SRes := ⟨.bool x.1, [], [some [.string ⟨⟨x.2.s⟩⟩, .bool x.2.made, .bool x.2.bad]]⟩
def r105 (g : octet_Reader → Option (Bool × octet_Reader)) : Dec := dPt 0 unoctet_Reader fun (y0 : octet_Reader) => dEnd (ofG (g y0) rx105)
theorem r105_c {g : octet_Reader → Option (Bool × octet_Reader)} {y0 : octet_Reader} {x : Bool × octet_Reader} (hx : g y0 = some x) : r105 g [.pointer (some ⟨0, 0, none⟩)] [some [.string ⟨⟨y0.s⟩⟩, .bool y0.made, .bool y0.bad]] = some (rx105 x) := (dPt_eq (unoctet_Reader_c _)).trans (ofG_eq hx)
def s105 (g : octet_Reader → Option (Bool × octet_Reader)) : Summ := ⟨[.pt 3], r105 g⟩
theorem r105_eq {g : octet_Reader → Option (Bool × octet_Reader)} {y0 : octet_Reader} {x : Bool × octet_Reader} (hx : g y0 = some x) : (s105 g).run [.pointer (some ⟨0, 0, none⟩)] [some [.string ⟨⟨y0.s⟩⟩, .bool y0.made, .bool y0.bad]] = some (rx105 x) := r105_c hx
abbrev sums105 : List (Nat × Summ) := []
theorem leads105 (hS : SumsOK Try.prog (aget (sums105))) (ra0 : octet_Reader) (res : Bool × octet_Reader) (h : octet_Reader_BadF ra0 = some res) :
    Leads Try.prog 105 1 ⟨⟨105, 18, [(0, .pointer (some ⟨0, 0, none⟩))], [.code k105_3], [], false, none⟩, [], [(0, .cells [.string ⟨⟨ra0.s⟩⟩, .bool ra0.made, .bool ra0.bad])], 1⟩ (fun v H _ => Res 1 (rx105 res) v H) := by
  unfold octet_Reader_BadF at h
  refine ev_ok tab_ok hS true 3000 ?_
  conv => whnf
  refine br.h h ?_ ?_ ?_
  · rfl
  · clear h; intro hb h; conv => whnf
    all_goals (cases h)
    all_goals exact Res.of [] rfl nw_0 (by decide) js_0 (wr_s (rfl) (hs_cells rfl) wr_0)
  clear h; intro hb h; conv => whnf
  all_goals (cases h)
  all_goals exact Res.of [] rfl nw_0 (by decide) js_0 (wr_s (rfl) (hs_cells rfl) wr_0)
theorem ok105 (hS : SumsOK Try.prog (aget (sums105))) : SumOK Try.prog 105 (s105 (octet_Reader_BadF)) := by
  refine SumOK.of_leads tab_ok (fun ar os r ha hr => ?_) ⟨Try.f105, rfl, by decide, rfl⟩
  replace hr : r105 (octet_Reader_BadF) ar (conts os) = some r := hr
  unfold r105 at hr
  generalize hc : conts os = C at hr
  have hq := dPt.elim hr; clear hr; obtain ⟨c0, l1, C, y0, rfl, rfl, e0, hr⟩ := hq; obtain rfl := unoctet_Reader_eq _ _ e0
  replace hr := dFin hr; obtain ⟨rfl, rfl, x, h, rfl⟩ := hr
  obtain ⟨os, rfl, ha, hc⟩ := kinds_some ha hc
  obtain rfl := kinds_nil hc
  exact ⟨_, rfl, leads105 hS _ x h⟩
def octet_Reader_Bad : octet_Reader → Option (Bool × octet_Reader) := octet_Reader_BadF
theorem lift105 : SumOK Try.prog 105 (s105 octet_Reader_Bad) := ok105 (SumsOK.of_tab trivial)
def octet_Reader_TextF (octet_Reader_Bad : octet_Reader → Option (Bool × octet_Reader)) (ra0 : octet_Reader) (n : Int) : Option ((List UInt8) × octet_Reader) :=
  (octet_Reader_Bad ra0).bind fun b =>
  cond (b.1)
    (
    some (([], b.2)))
    (
    cond (decide (n < 0))
      (
      some (([], octet_Reader.mk b.2.s b.2.made true)))
      (
      cond (decide (n > (b.2.s.length : Int)))
        (
        some (([], octet_Reader.mk b.2.s b.2.made true)))
        (
        oreq (decide ((0 : Int) ≤ n ∧ n ≤ (b.2.s.length : Int))) <|
        oreq (decide ((0 : Int) ≤ n ∧ n ≤ (b.2.s.length : Int))) <|
        let t := (b.2.s.drop n.toNat).take (b.2.s.length - n.toNat)
        some ((b.2.s.take n.toNat, octet_Reader.mk t b.2.made b.2.bad)))))
def rx106 (x : (List UInt8) × octet_Reader) : SRes := ⟨.string ⟨⟨x.1⟩⟩, [], [some [.string ⟨⟨x.2.s⟩⟩, .bool x.2.made, .bool x.2.bad]]⟩
def r106 (g : octet_Reader → Int → Option ((List UInt8) × octet_Reader)) : Dec := dPt 0 unoctet_Reader fun (y0 : octet_Reader) => dV (asI .i64) fun (y1 : Int) => dEnd (ofG (g y0 y1) rx106)
theorem r106_c {g : octet_Reader → Int → Option ((List UInt8) × octet_Reader)} {y0 : octet_Reader} {y1 : Int} {x : (List UInt8) × octet_Reader} (hx : g y0 y1 = some x) : r106 g [.pointer (some ⟨0, 0, none⟩), .int .i64 y1] [some [.string ⟨⟨y0.s⟩⟩, .bool y0.made, .bool y0.bad]] = some (rx106 x) := (dPt_eq (unoctet_Reader_c _)).trans ((dV_eq (asI_c _)).trans (ofG_eq hx))
def s106 (g : octet_Reader → Int → Option ((List UInt8) × octet_Reader)) : Summ := ⟨[.pt 3, .v], r106 g⟩
theorem r106_eq {g : octet_Reader → Int → Option ((List UInt8) × octet_Reader)} {y0 : octet_Reader} {y1 : Int} {x : (List UInt8) × octet_Reader} (hx : g y0 y1 = some x) : (s106 g).run [.pointer (some ⟨0, 0, none⟩), .int .i64 y1] [some [.string ⟨⟨y0.s⟩⟩, .bool y0.made, .bool y0.bad]] = some (rx106 x) := r106_c hx
abbrev sums106 (octet_Reader_Bad : octet_Reader → Option (Bool × octet_Reader)) : List (Nat × Summ) := [(105, s105 octet_Reader_Bad)]
theorem leads106 (octet_Reader_Bad : octet_Reader → Option (Bool × octet_Reader)) (hS : SumsOK Try.prog (aget (sums106 octet_Reader_Bad))) (ra0 : octet_Reader) (n : Int) (res : (List UInt8) × octet_Reader) (h : octet_Reader_TextF octet_Reader_Bad ra0 n = some res) :
    Leads Try.prog 106 1 ⟨⟨106, 38, [(0, .pointer (some ⟨0, 0, none⟩)), (1, .int .i64 n)], [.code k106_21], [], false, none⟩, [], [(0, .cells [.string ⟨⟨ra0.s⟩⟩, .bool ra0.made, .bool ra0.bad])], 1⟩ (fun v H _ => Res 1 (rx106 res) v H) := by
  unfold octet_Reader_TextF at h
  refine ev_ok tab_ok hS true 3000 ?_
  conv => whnf
  replace h := obind.elim h; obtain ⟨b, hy, h⟩ := h
  refine sumK.introF [0] (sumRun_of (aqs := [.pointer (some ⟨0, 0, none⟩)]) (ws := [.win 0 0 3 true]) (n := 0) (m := 0) (t' := 1) (ra_cons rfl rfl ra_nil) rfl (by rfl) (r105_eq hy) rfl rfl rfl rfl (wb_win rfl rfl rfl ⟨rfl, Nat.le_of_ble_eq_true rfl⟩ rfl rfl wb_nil) an_nil rfl) ?_
  conv => whnf
  refine br.h h ?_ ?_ ?_
  · rfl
  · clear h; intro hb h; conv => whnf
    all_goals (cases h)
    all_goals exact Res.of [] rfl nw_0 (by decide) js_0 (wr_s (rfl) (hs_cells rfl) wr_0)
  clear h; intro hb h; conv => whnf
  refine br.h h ?_ ?_ ?_
  · rfl
  · clear h; intro hb h; conv => whnf
    all_goals (cases h)
    all_goals exact Res.of [] rfl nw_0 (by decide) js_0 (wr_s (rfl) (hs_cells rfl) wr_0)
  clear h; intro hb h; conv => whnf
  refine br.h h ?_ ?_ ?_
  · rfl
  · clear h; intro hb h; conv => whnf
    all_goals (cases h)
    all_goals exact Res.of [] rfl nw_0 (by decide) js_0 (wr_s (rfl) (hs_cells rfl) wr_0)
  clear h; intro hb h; conv => whnf
  replace h := oreq.elim h; obtain ⟨hb, h⟩ := h
  first | (refine req.intro hb ?_; conv => whnf) | skip
  replace h := oreq.elim h; obtain ⟨hb, h⟩ := h
  first | (refine req.intro hb ?_; conv => whnf) | skip
  let t : List UInt8 := (b.2.s.drop n.toNat).take (b.2.s.length - n.toNat)
  all_goals (cases h)
  all_goals exact Res.of [] rfl nw_0 (by decide) js_0 (wr_s (rfl) (hs_cells rfl) wr_0)
theorem ok106 (octet_Reader_Bad : octet_Reader → Option (Bool × octet_Reader)) (hS : SumsOK Try.prog (aget (sums106 octet_Reader_Bad))) : SumOK Try.prog 106 (s106 (octet_Reader_TextF octet_Reader_Bad)) := by
  refine SumOK.of_leads tab_ok (fun ar os r ha hr => ?_) ⟨Try.f106, rfl, by decide, rfl⟩
  replace hr : r106 (octet_Reader_TextF octet_Reader_Bad) ar (conts os) = some r := hr
  unfold r106 at hr
  generalize hc : conts os = C at hr
  have hq := dPt.elim hr; clear hr; obtain ⟨c0, l1, C, y0, rfl, rfl, e0, hr⟩ := hq; obtain rfl := unoctet_Reader_eq _ _ e0
  replace hr := dV.elim hr; obtain ⟨v1, l2, y1, rfl, e1, hr⟩ := hr; obtain rfl := asI_eq _ _ _ e1
  replace hr := dFin hr; obtain ⟨rfl, rfl, x, h, rfl⟩ := hr
  obtain ⟨os, rfl, ha, hc⟩ := kinds_some ha hc
  obtain rfl := kinds_nil hc
  exact ⟨_, rfl, leads106 octet_Reader_Bad hS _ _ x h⟩
def octet_Reader_Text : octet_Reader → Int → Option ((List UInt8) × octet_Reader) := octet_Reader_TextF octet_Reader_Bad
theorem lift106 : SumOK Try.prog 106 (s106 octet_Reader_Text) := ok106 octet_Reader_Bad (SumsOK.of_tab ⟨lift105, trivial⟩)
def octet_Reader_NumF (octet_Get : (List UInt8) → Int → Int → Option (Int × Bool)) (octet_Reader_Text : octet_Reader → Int → Option ((List UInt8) × octet_Reader)) (ra0 : octet_Reader) (k : Int) : Option (Int × octet_Reader) :=
  cond (decide (k < 1))
    (
    (octet_Reader_Text ra0 (-1)).bind fun t =>
    (octet_Get t.1 0 (-1)).bind fun xg =>
    some ((wI .i64 xg.1, t.2)))
    (
    cond (decide (k > 7))
      (
      (octet_Reader_Text ra0 (-1)).bind fun t1 =>
      (octet_Get t1.1 0 (-1)).bind fun xg1 =>
      some ((wI .i64 xg1.1, t1.2)))
      (
      (octet_Reader_Text ra0 k).bind fun t2 =>
      (octet_Get t2.1 0 k).bind fun xg2 =>
      some ((wI .i64 xg2.1, t2.2))))
def rx104 (x : Int × octet_Reader) : SRes := ⟨.int .i64 x.1, [], [some [.string ⟨⟨x.2.s⟩⟩, .bool x.2.made, .bool x.2.bad]]⟩
def r104 (g : octet_Reader → Int → Option (Int × octet_Reader)) : Dec := dPt 0 unoctet_Reader fun (y0 : octet_Reader) => dV (asI .i64) fun (y1 : Int) => dEnd (ofG (g y0 y1) rx104)
theorem r104_c {g : octet_Reader → Int → Option (Int × octet_Reader)} {y0 : octet_Reader} {y1 : Int} {x : Int × octet_Reader} (hx : g y0 y1 = some x) : r104 g [.pointer (some ⟨0, 0, none⟩), .int .i64 y1] [some [.string ⟨⟨y0.s⟩⟩, .bool y0.made, .bool y0.bad]] = some (rx104 x) := (dPt_eq (unoctet_Reader_c _)).trans ((dV_eq (asI_c _)).trans (ofG_eq hx))
def s104 (g : octet_Reader → Int → Option (Int × octet_Reader)) : Summ := ⟨[.pt 3, .v], r104 g⟩
theorem r104_eq {g : octet_Reader → Int → Option (Int × octet_Reader)} {y0 : octet_Reader} {y1 : Int} {x : Int × octet_Reader} (hx : g y0 y1 = some x) : (s104 g).run [.pointer (some ⟨0, 0, none⟩), .int .i64 y1] [some [.string ⟨⟨y0.s⟩⟩, .bool y0.made, .bool y0.bad]] = some (rx104 x) := r104_c hx
abbrev sums104 (octet_Get : (List UInt8) → Int → Int → Option (Int × Bool)) (octet_Reader_Text : octet_Reader → Int → Option ((List UInt8) × octet_Reader)) : List (Nat × Summ) := [(25, s25 octet_Get), (106, s106 octet_Reader_Text)]
theorem leads104 (octet_Get : (List UInt8) → Int → Int → Option (Int × Bool)) (octet_Reader_Text : octet_Reader → Int → Option ((List UInt8) × octet_Reader)) (hS : SumsOK Try.prog (aget (sums104 octet_Get octet_Reader_Text))) (ra0 : octet_Reader) (k : Int) (res : Int × octet_Reader) (h : octet_Reader_NumF octet_Get octet_Reader_Text ra0 k = some res) :
    Leads Try.prog 104 1 ⟨⟨104, 23, [(0, .pointer (some ⟨0, 0, none⟩)), (1, .int .i64 k)], [.code k104_10], [], false, none⟩, [], [(0, .cells [.string ⟨⟨ra0.s⟩⟩, .bool ra0.made, .bool ra0.bad])], 1⟩ (fun v H _ => Res 1 (rx104 res) v H) := by
  unfold octet_Reader_NumF at h
  refine ev_ok tab_ok hS true 3000 ?_
  conv => whnf
  refine br.h h ?_ ?_ ?_
  · rfl
  · clear h; intro hb h; conv => whnf
    replace h := obind.elim h; obtain ⟨t, hy, h⟩ := h
    refine sumK.introF [0] (sumRun_of (aqs := [.pointer (some ⟨0, 0, none⟩), .int .i64 (-1)]) (ws := [.win 0 0 3 true]) (n := 0) (m := 0) (t' := 1) (ra_cons rfl rfl (ra_cons rfl rfl ra_nil)) rfl (by rfl) (r106_eq hy) rfl rfl rfl rfl (wb_win rfl rfl rfl ⟨rfl, Nat.le_of_ble_eq_true rfl⟩ rfl rfl wb_nil) an_nil rfl) ?_
    conv => whnf
    replace h := obind.elim h; obtain ⟨xg, hy, h⟩ := h
    refine sumK.q rfl rfl (r25_eq hy) rfl rfl rfl ?_
    conv => whnf
    all_goals (cases h)
    all_goals exact Res.of [] rfl nw_0 (by decide) js_0 (wr_s (rfl) (hs_cells rfl) wr_0)
  clear h; intro hb h; conv => whnf
  refine br.h h ?_ ?_ ?_
  · rfl
  · clear h; intro hb h; conv => whnf
    replace h := obind.elim h; obtain ⟨t1, hy, h⟩ := h
    refine sumK.introF [0] (sumRun_of (aqs := [.pointer (some ⟨0, 0, none⟩), .int .i64 (-1)]) (ws := [.win 0 0 3 true]) (n := 0) (m := 0) (t' := 1) (ra_cons rfl rfl (ra_cons rfl rfl ra_nil)) rfl (by rfl) (r106_eq hy) rfl rfl rfl rfl (wb_win rfl rfl rfl ⟨rfl, Nat.le_of_ble_eq_true rfl⟩ rfl rfl wb_nil) an_nil rfl) ?_
    conv => whnf
    replace h := obind.elim h; obtain ⟨xg1, hy, h⟩ := h
    refine sumK.q rfl rfl (r25_eq hy) rfl rfl rfl ?_
    conv => whnf
    all_goals (cases h)
    all_goals exact Res.of [] rfl nw_0 (by decide) js_0 (wr_s (rfl) (hs_cells rfl) wr_0)
  clear h; intro hb h; conv => whnf
  replace h := obind.elim h; obtain ⟨t2, hy, h⟩ := h
  refine sumK.introF [0] (sumRun_of (aqs := [.pointer (some ⟨0, 0, none⟩), .int .i64 k]) (ws := [.win 0 0 3 true]) (n := 0) (m := 0) (t' := 1) (ra_cons rfl rfl (ra_cons rfl rfl ra_nil)) rfl (by rfl) (r106_eq hy) rfl rfl rfl rfl (wb_win rfl rfl rfl ⟨rfl, Nat.le_of_ble_eq_true rfl⟩ rfl rfl wb_nil) an_nil rfl) ?_
  conv => whnf
  replace h := obind.elim h; obtain ⟨xg2, hy, h⟩ := h
  refine sumK.q rfl rfl (r25_eq hy) rfl rfl rfl ?_
  conv => whnf
  all_goals (cases h)
  all_goals exact Res.of [] rfl nw_0 (by decide) js_0 (wr_s (rfl) (hs_cells rfl) wr_0)
theorem ok104 (octet_Get : (List UInt8) → Int → Int → Option (Int × Bool)) (octet_Reader_Text : octet_Reader → Int → Option ((List UInt8) × octet_Reader)) (hS : SumsOK Try.prog (aget (sums104 octet_Get octet_Reader_Text))) : SumOK Try.prog 104 (s104 (octet_Reader_NumF octet_Get octet_Reader_Text)) := by
  refine SumOK.of_leads tab_ok (fun ar os r ha hr => ?_) ⟨Try.f104, rfl, by decide, rfl⟩
  replace hr : r104 (octet_Reader_NumF octet_Get octet_Reader_Text) ar (conts os) = some r := hr
  unfold r104 at hr
  generalize hc : conts os = C at hr
  have hq := dPt.elim hr; clear hr; obtain ⟨c0, l1, C, y0, rfl, rfl, e0, hr⟩ := hq; obtain rfl := unoctet_Reader_eq _ _ e0
  replace hr := dV.elim hr; obtain ⟨v1, l2, y1, rfl, e1, hr⟩ := hr; obtain rfl := asI_eq _ _ _ e1
  replace hr := dFin hr; obtain ⟨rfl, rfl, x, h, rfl⟩ := hr
  obtain ⟨os, rfl, ha, hc⟩ := kinds_some ha hc
  obtain rfl := kinds_nil hc
  exact ⟨_, rfl, leads104 octet_Get octet_Reader_Text hS _ _ x h⟩
def octet_Reader_Num : octet_Reader → Int → Option (Int × octet_Reader) := octet_Reader_NumF octet_Get octet_Reader_Text
theorem lift104 : SumOK Try.prog 104 (s104 octet_Reader_Num) := ok104 octet_Get octet_Reader_Text (SumsOK.of_tab ⟨lift25, lift106, trivial⟩)
def octet_NewF (s : List UInt8) : Option octet_Reader :=
  some (octet_Reader.mk s true false)
def rx103 (x : octet_Reader) : SRes := ⟨.pointer (some ⟨0, 0, none⟩), [[.string ⟨⟨x.s⟩⟩, .bool x.made, .bool x.bad]], []⟩
def r103 (g : (List UInt8) → Option octet_Reader) : Dec := dV asS fun (y0 : List UInt8) => dEnd (ofG (g y0) rx103)
theorem r103_c {g : (List UInt8) → Option octet_Reader} {y0 : List UInt8} {x : octet_Reader} (hx : g y0 = some x) : r103 g [.string ⟨⟨y0⟩⟩] [] = some (rx103 x) := (dV_eq (asS_c)).trans (ofG_eq hx)
def s103 (g : (List UInt8) → Option octet_Reader) : Summ := ⟨[.v], r103 g⟩
theorem r103_eq {g : (List UInt8) → Option octet_Reader} {y0 : List UInt8} {x : octet_Reader} (hx : g y0 = some x) : (s103 g).run [.string ⟨⟨y0⟩⟩] [] = some (rx103 x) := r103_c hx
abbrev sums103 : List (Nat × Summ) := []
theorem leads103 (hS : SumsOK Try.prog (aget (sums103))) (s : List UInt8) (res : octet_Reader) (h : octet_NewF s = some res) :
    Leads Try.prog 103 0 ⟨⟨103, 6, [(0, .string ⟨⟨s⟩⟩)], [.code k103_3], [], false, none⟩, [], [], 0⟩ (fun v H _ => Res 0 (rx103 res) v H) := by
  unfold octet_NewF at h
  refine ev_ok tab_ok hS true 3000 ?_
  conv => whnf
  all_goals (cases h)
  all_goals exact Res.of [0] rfl (nw_s (rfl) (hs_cells rfl) nw_0) (by decide) (js_l (by decide) js_0) wr_0
theorem ok103 (hS : SumsOK Try.prog (aget (sums103))) : SumOK Try.prog 103 (s103 (octet_NewF)) := by
  refine SumOK.of_leads tab_ok (fun ar os r ha hr => ?_) ⟨Try.f103, rfl, by decide, rfl⟩
  replace hr : r103 (octet_NewF) ar (conts os) = some r := hr
  unfold r103 at hr
  generalize hc : conts os = C at hr
  replace hr := dV.elim hr; obtain ⟨v0, l1, y0, rfl, e0, hr⟩ := hr; obtain rfl := asS_eq _ _ e0
  replace hr := dFin hr; obtain ⟨rfl, rfl, x, h, rfl⟩ := hr
  obtain rfl := kinds_nil hc
  exact ⟨_, rfl, leads103 hS _ x h⟩
def octet_New : (List UInt8) → Option octet_Reader := octet_NewF
theorem lift103 : SumOK Try.prog 103 (s103 octet_New) := ok103 (SumsOK.of_tab trivial)
end Go.Vm.Code
namespace Go.Vm.Code
open Go Go.Vm
def rdr (r : octet_Reader) (k : Int) : octet_Reader := if r.bad = true ∨ k < 0 ∨ k > r.s.length then ⟨r.s, true, true⟩ else ⟨r.s.drop k.toNat, true, false⟩
def rdt (r : octet_Reader) (k : Int) : List UInt8 := if r.bad = true ∨ k < 0 ∨ k > r.s.length then [] else r.s.take k.toNat
theorem rBad_eq {r : octet_Reader} (h : r.made = true) : octet_Reader_Bad r = some (r.bad, r) := by
  unfold octet_Reader_Bad octet_Reader_BadF
  rw [h]; rfl
theorem rText_eq {r : octet_Reader} {k : Int} (h : r.made = true) : octet_Reader_Text r k = some (rdt r k, rdr r k) := by
  unfold octet_Reader_Text octet_Reader_TextF rdt rdr
  rw [rBad_eq h, Option.bind_some]
  simp only []
  obtain ⟨s, m, b⟩ := r
  simp only at h ⊢
  subst h
  cases b with
  | true => simp
  | false =>
    rw [cond_false]
    by_cases h1 : k < 0
    · rw [cond_p h1, if_pos (by omega), if_pos (by omega)]
    rw [cond_n h1]
    by_cases h2 : k > s.length
    · rw [cond_p h2, if_pos (by omega), if_pos (by omega)]
    · have e : (s.drop k.toNat).take (s.length - k.toNat) = s.drop k.toNat := List.take_of_length_le (by simp)
      rw [cond_n h2, oreq_p (by omega), oreq_p (by omega), if_neg (by simp; omega), if_neg (by simp; omega), e]
theorem rdr_made (r : octet_Reader) (k : Int) : (rdr r k).made = true := by unfold rdr; split <;> rfl
theorem rdr_bad {r : octet_Reader} {k : Int} : (rdr r k).bad = false ↔ r.bad = false ∧ 0 ≤ k ∧ k ≤ r.s.length := by
  unfold rdr
  split
  · rename_i h
    simp only [Bool.true_eq_false, false_iff]
    intro ⟨a, b, c⟩
    rcases h with h | h | h
    · rw [a] at h; cases h
    · omega
    · omega
  · rename_i h
    simp only [true_iff]
    cases hb : r.bad
    · exact ⟨rfl, by omega, by omega⟩
    · exact absurd (.inl hb) h
theorem rdr_len {r : octet_Reader} {k : Int} (h : (rdr r k).bad = false) : ((rdr r k).s.length : Int) = r.s.length - k := by
  obtain ⟨a, b, c⟩ := rdr_bad.1 h
  unfold rdr
  rw [if_neg (by rw [a]; simp; omega)]
  simp; omega
theorem rdr_step {r r' : octet_Reader} {k : Int} (h : rdr r k = r') (hb : r'.bad = false) : r.bad = false ∧ (r'.s.length : Int) + k = r.s.length := by
  subst h
  have := rdr_len hb
  exact ⟨(rdr_bad.1 hb).1, by omega⟩
theorem rdr_ok {s : List UInt8} {k : Int} (h0 : 0 ≤ k) (h1 : k ≤ s.length) : rdr ⟨s, true, false⟩ k = ⟨s.drop k.toNat, true, false⟩ := by
  unfold rdr; rw [if_neg (by simp; omega)]
theorem rdt_ok {s : List UInt8} {k : Int} (h0 : 0 ≤ k) (h1 : k ≤ s.length) : rdt ⟨s, true, false⟩ k = s.take k.toNat := by
  unfold rdt; rw [if_neg (by simp; omega)]
theorem rdt_len (r : octet_Reader) (k : Int) : (rdt r k).length ≤ r.s.length := by
  unfold rdt; split
  · simp
  · rw [List.length_take]; omega
def rdn (r : octet_Reader) (k : Int) : Int := (valL (rdt r (if k < 1 ∨ k > 7 then -1 else k)) : Nat)
theorem rNum_eq {r : octet_Reader} {k : Int} (h : r.made = true) (hl : r.s.length < 2 ^ 61) : octet_Reader_Num r k = some (rdn r k, rdr r (if k < 1 ∨ k > 7 then -1 else k)) := by
  unfold octet_Reader_Num octet_Reader_NumF rdn
  have bad : octet_Reader_Text r (-1) = some ([], rdr r (-1)) := by
    rw [rText_eq h]; unfold rdt; rw [if_pos (by omega)]
  have e0 : rdt r (-1) = [] := by unfold rdt; rw [if_pos (by omega)]
  by_cases h1 : k < 1
  · rw [cond_p h1, bad, Option.bind_some, octet_Get_eq (by simp), if_pos (by omega), Option.bind_some, e0]; rfl
  rw [cond_n h1]
  by_cases h2 : k > 7
  · rw [cond_p h2, bad, Option.bind_some, octet_Get_eq (by simp), if_pos (by omega), Option.bind_some, e0]; rfl
  have hlen := rdt_len r k
  rw [cond_n h2, rText_eq h, Option.bind_some, octet_Get_eq (by simp only []; omega), Option.bind_some, if_neg (by omega)]
  simp only []
  unfold getS
  by_cases hc : r.bad = true ∨ k < 0 ∨ k > r.s.length
  · have e : rdt r k = [] := by unfold rdt; rw [if_pos hc]
    rw [e, if_neg (by simp; omega)]; rfl
  · have hl2 : (rdt r k).length = k.toNat := by unfold rdt; rw [if_neg hc]; simp; omega
    rw [if_pos (by omega)]
    have e2 : ((rdt r k).drop (0 : Int).toNat).take k.toNat = rdt r k := by
      rw [show (0 : Int).toNat = 0 from rfl, List.drop_zero, List.take_of_length_le (by omega)]
    have hv : valL (rdt r k) < 2 ^ 56 := by
      have := val_lt (rdt r k)
      rw [hl2] at this
      exact pow_step this (by omega)
    simp only [e2]
    rw [wI64 (by omega) (by omega)]
theorem getS_at {s : List UInt8} {p k : Int} (h0 : 0 ≤ p) (h1 : 1 ≤ k) (h8 : k ≤ 8) (h : p + k ≤ s.length) : getS s p k = (((valL ((s.drop p.toNat).take k.toNat) : Nat) : Int), true) := by
  unfold getS; rw [if_pos (by omega)]
theorem rNew_eq (s : List UInt8) : octet_New s = some ⟨s, true, false⟩ := rfl
theorem wsum_be2 {n : Nat} (h : n < 65536) : wsum (be n 2) = n := by
  have e : be n 2 = [UInt8.ofNat (n / 256), UInt8.ofNat n] := by simp [be]
  rw [e, wsum, wsum]
  simp only [UInt8.toNat_ofNat']
  omega
theorem norm_zero_mod {n : Nat} (h : n % 65535 = 0) (h0 : n ≠ 0) : norm n = 65535 := norm_eq (by omega) (by omega) (by omega)
def inR (n m : Int) : Bool := decide (0 ≤ n ∧ n ≤ m)
theorem inR_iff {n m : Int} : inR n m = true ↔ 0 ≤ n ∧ n ≤ m := by unfold inR; simp
theorem opt_mod (n : Nat) : (((n : Int).tmod 4) == 0) = decide (n % 4 = 0) := by
  rw [Int.tmod_eq_emod_of_nonneg (by omega), Bool.eq_iff_iff, beq_iff_eq, decide_eq_true_eq]; omega
theorem opt_le (n : Nat) : decide ((n : Int) ≤ 40) = decide (n ≤ 40) := by rw [Bool.eq_iff_iff, decide_eq_true_eq, decide_eq_true_eq]; omega
theorem tdiv4 (n : Nat) : (20 + (n : Int)).tdiv 4 = (((20 + n) / 4 : Nat) : Int) := by rw [Int.tdiv_eq_ediv_of_nonneg (by omega)]; omega
def vK (s : List UInt8) (p k : Nat) : Int := (valL ((s.drop p).take k) : Nat)
theorem vK_rng (s : List UInt8) (p k n : Nat) (h : 256 ^ k ≤ n) : 0 ≤ vK s p k ∧ vK s p k < n := by
  have := val_take_lt (l := s.drop p) (k := k) n h
  unfold vK; omega
theorem num_at {s : List UInt8} {p k : Nat} (h1 : 1 ≤ k) (h7 : k ≤ 7) (h : p + k ≤ s.length) (hl : s.length < 2 ^ 61) : octet_Reader_Num ⟨s.drop p, true, false⟩ (k : Int) = some (vK s p k, ⟨s.drop (p + k), true, false⟩) := by
  have hd : (s.drop p).length = s.length - p := by simp
  rw [rNum_eq rfl (by simp only; omega), if_neg (by omega), rdr_ok (by omega) (by omega)]
  unfold rdn
  rw [if_neg (by omega), rdt_ok (by omega) (by omega), Int.toNat_natCast, List.drop_drop]; rfl
theorem text_at {s : List UInt8} {p k : Nat} (h : p + k ≤ s.length) : octet_Reader_Text ⟨s.drop p, true, false⟩ (k : Int) = some ((s.drop p).take k, ⟨s.drop (p + k), true, false⟩) := by
  have hd : (s.drop p).length = s.length - p := by simp
  rw [rText_eq rfl, rdr_ok (by omega) (by omega), rdt_ok (by omega) (by omega), Int.toNat_natCast, List.drop_drop]
theorem vK_one {s : List UInt8} {p : Nat} (h : p < s.length) : vK s p 1 = (s[p].toNat : Int) := by
  unfold vK
  rw [List.drop_eq_getElem_cons h]
  show ((valL [s[p]] : Nat) : Int) = _
  rw [val_cons]; simp
theorem vK_two {s : List UInt8} {p : Nat} (h : p + 1 < s.length) : vK s p 2 = (s[p].toNat * 256 + s[p + 1].toNat : Int) := by
  unfold vK
  rw [List.drop_eq_getElem_cons (by omega : p < s.length), List.drop_eq_getElem_cons h]
  show ((valL [s[p], s[p + 1]] : Nat) : Int) = _
  rw [val_cons, val_cons]; simp
theorem l1 {l : List UInt8} (h : l.length = 1) : ∃ a, l = [a] := by
  match l, h with
  | [a], _ => exact ⟨a, rfl⟩
theorem l2 {l : List UInt8} (h : l.length = 2) : ∃ a b, l = [a, b] := by
  match l, h with
  | [a, b], _ => exact ⟨a, b, rfl⟩
theorem l4 {l : List UInt8} (h : l.length = 4) : ∃ a b c d, l = [a, b, c, d] := by
  match l, h with
  | [a, b, c, d], _ => exact ⟨a, b, c, d, rfl⟩
theorem vK_of {s w : List UInt8} {p k n : Nat} (h : (s.drop p).take k = w) (e : w = be n k) (hn : n < 256 ^ k) : vK s p k = (n : Int) := by
  unfold vK; rw [h, e, val_be_lt hn]
theorem pseu_even (src dst : api_Addr) (p n : Int) : (pseu src dst p n).length % 2 = 0 := by
  unfold pseu
  split
  · rename_i h
    rw [List.length_append, List.length_append, abytes_len, abytes_len, ← h.2.2]
    cases src.V6
    · simp only [cond_false, List.length_append]
      rw [show (putS 0 1).length = 1 from rfl, show putS p 1 = be p.toNat 1 from putS_be (k := 1) (by omega), show putS n 2 = be n.toNat 2 from putS_be (k := 2) (by omega), be_len, be_len]
    · simp only [cond_true, List.length_append]
      rw [show (putS 0 3).length = 3 from rfl, show putS p 1 = be p.toNat 1 from putS_be (k := 1) (by omega), show putS n 4 = be n.toNat 4 from putS_be (k := 4) (by omega), be_len, be_len]
  · rfl
end Go.Vm.Code
namespace Go.Vm.Code
open Go Go.Vm Go.Proofs
set_option maxRecDepth 100000
set_option maxHeartbeats 4000000
set_option linter.unusedVariables false
def ipfour_withinF (n : Int) (most : Int) : Option Bool :=
  cond (decide (0 ≤ n))
    (
    some (decide (n ≤ most)))
    (
    some (false))
def rx97 (x : Bool) : SRes := ⟨.bool x, [], []⟩
def r97 (g : Int → Int → Option Bool) : Dec := dV (asI .i64) fun (y0 : Int) => dV (asI .i64) fun (y1 : Int) => dEnd (ofG (g y0 y1) rx97)
theorem r97_c {g : Int → Int → Option Bool} {y0 : Int} {y1 : Int} {x : Bool} (hx : g y0 y1 = some x) : r97 g [.int .i64 y0, .int .i64 y1] [] = some (rx97 x) := (dV_eq (asI_c _)).trans ((dV_eq (asI_c _)).trans (ofG_eq hx))
def s97 (g : Int → Int → Option Bool) : Summ := ⟨[.v, .v], r97 g⟩
theorem r97_eq {g : Int → Int → Option Bool} {y0 : Int} {y1 : Int} {x : Bool} (hx : g y0 y1 = some x) : (s97 g).run [.int .i64 y0, .int .i64 y1] [] = some (rx97 x) := r97_c hx
abbrev sums97 : List (Nat × Summ) := []
theorem leads97 (hS : SumsOK Try.prog (aget (sums97))) (n : Int) (most : Int) (res : Bool) (h : ipfour_withinF n most = some res) :
    Leads Try.prog 97 0 ⟨⟨97, 12, [(0, .int .i64 n), (1, .int .i64 most)], [.code k97_3], [], false, none⟩, [], [], 0⟩ (fun v H _ => Res 0 (rx97 res) v H) := by
  unfold ipfour_withinF at h
  refine ev_ok tab_ok hS true 3000 ?_
  conv => whnf
  refine br.h h ?_ ?_ ?_
  · rfl
  · clear h; intro hb h; conv => whnf
    all_goals (cases h; exact Res.z rfl rfl rfl)
  clear h; intro hb h; conv => whnf
  all_goals (cases h; exact Res.z rfl rfl rfl)
theorem ok97 (hS : SumsOK Try.prog (aget (sums97))) : SumOK Try.prog 97 (s97 (ipfour_withinF)) := by
  refine SumOK.of_leads tab_ok (fun ar os r ha hr => ?_) ⟨Try.f97, rfl, by decide, rfl⟩
  replace hr : r97 (ipfour_withinF) ar (conts os) = some r := hr
  unfold r97 at hr
  generalize hc : conts os = C at hr
  replace hr := dV.elim hr; obtain ⟨v0, l1, y0, rfl, e0, hr⟩ := hr; obtain rfl := asI_eq _ _ _ e0
  replace hr := dV.elim hr; obtain ⟨v1, l2, y1, rfl, e1, hr⟩ := hr; obtain rfl := asI_eq _ _ _ e1
  replace hr := dFin hr; obtain ⟨rfl, rfl, x, h, rfl⟩ := hr
  obtain rfl := kinds_nil hc
  exact ⟨_, rfl, leads97 hS _ _ x h⟩
def ipfour_within : Int → Int → Option Bool := ipfour_withinF
theorem lift97 : SumOK Try.prog 97 (s97 ipfour_within) := ok97 (SumsOK.of_tab trivial)
def ipfour_fourF (addr_Right : api_Addr → Option Bool) (a : api_Addr) : Option Bool :=
  cond (!a.V6)
    (
    (addr_Right a).bind fun xr =>
    some (xr))
    (
    some (false))
def rx98 (x : Bool) : SRes := ⟨.bool x, [], []⟩
def r98 (g : api_Addr → Option Bool) : Dec := dV uvapi_Addr fun (y0 : api_Addr) => dEnd (ofG (g y0) rx98)
theorem r98_c {g : api_Addr → Option Bool} {y0 : api_Addr} {x : Bool} (hx : g y0 = some x) : r98 g [.agg ⟨[.bool y0.V6, .int .u64 y0.Hi, .int .u64 y0.Lo]⟩] [] = some (rx98 x) := (dV_eq (uvapi_Addr_c _)).trans (ofG_eq hx)
def s98 (g : api_Addr → Option Bool) : Summ := ⟨[.v], r98 g⟩
theorem r98_eq {g : api_Addr → Option Bool} {y0 : api_Addr} {x : Bool} (hx : g y0 = some x) : (s98 g).run [.agg ⟨[.bool y0.V6, .int .u64 y0.Hi, .int .u64 y0.Lo]⟩] [] = some (rx98 x) := r98_c hx
abbrev sums98 (addr_Right : api_Addr → Option Bool) : List (Nat × Summ) := [(50, s50 addr_Right)]
theorem leads98 (addr_Right : api_Addr → Option Bool) (hS : SumsOK Try.prog (aget (sums98 addr_Right))) (a : api_Addr) (res : Bool) (h : ipfour_fourF addr_Right a = some res) :
    Leads Try.prog 98 0 ⟨⟨98, 10, [(0, .agg ⟨[.bool a.V6, .int .u64 a.Hi, .int .u64 a.Lo]⟩)], [.code k98_3], [], false, none⟩, [], [], 0⟩ (fun v H _ => Res 0 (rx98 res) v H) := by
  unfold ipfour_fourF at h
  refine ev_ok tab_ok hS true 3000 ?_
  conv => whnf
  refine br.h2 h ?_ ?_ ?_
  · rfl
  · clear h; intro hb h; conv => whnf
    all_goals (cases h; exact Res.z rfl rfl rfl)
  clear h; intro hb h; conv => whnf
  replace h := obind.elim h; obtain ⟨xr, hy, h⟩ := h
  refine sumK.q rfl rfl (r50_eq hy) rfl rfl rfl ?_
  conv => whnf
  all_goals (cases h; exact Res.z rfl rfl rfl)
theorem ok98 (addr_Right : api_Addr → Option Bool) (hS : SumsOK Try.prog (aget (sums98 addr_Right))) : SumOK Try.prog 98 (s98 (ipfour_fourF addr_Right)) := by
  refine SumOK.of_leads tab_ok (fun ar os r ha hr => ?_) ⟨Try.f98, rfl, by decide, rfl⟩
  replace hr : r98 (ipfour_fourF addr_Right) ar (conts os) = some r := hr
  unfold r98 at hr
  generalize hc : conts os = C at hr
  replace hr := dV.elim hr; obtain ⟨v0, l1, y0, rfl, e0, hr⟩ := hr; obtain rfl := uvapi_Addr_eq _ _ e0
  replace hr := dFin hr; obtain ⟨rfl, rfl, x, h, rfl⟩ := hr
  obtain rfl := kinds_nil hc
  exact ⟨_, rfl, leads98 addr_Right hS _ x h⟩
def ipfour_four : api_Addr → Option Bool := ipfour_fourF addr_Right
theorem lift98 : SumOK Try.prog 98 (s98 ipfour_four) := ok98 addr_Right (SumsOK.of_tab ⟨lift50, trivial⟩)
def ipfour_Head_mayF (ipfour_four : api_Addr → Option Bool) (ipfour_within : Int → Int → Option Bool) (ha0 : ipfour_Head) : Option Bool :=
  (ipfour_within ha0.Class 255).bind fun w =>
  cond (!w)
    (
    some (false))
    (
    (ipfour_within ha0.Mark 65535).bind fun w1 =>
    cond (!w1)
      (
      some (false))
      (
      (ipfour_within ha0.TTL 255).bind fun w2 =>
      cond (!w2)
        (
        some (false))
        (
        (ipfour_within ha0.Proto 255).bind fun w3 =>
        cond (!w3)
          (
          some (false))
          (
          (ipfour_four ha0.Src).bind fun f =>
          cond (f)
            (
            (ipfour_four ha0.Dst).bind fun f1 =>
            cond (f1)
              (
              cond (((ha0.Options.length : Int).tmod 4) == 0)
                (
                some (decide ((ha0.Options.length : Int) ≤ 40)))
                (
                some (false)))
              (
              some (false)))
            (
            some (false))))))
def rx79 (x : Bool) : SRes := ⟨.bool x, [], []⟩
def r79 (g : ipfour_Head → Option Bool) : Dec := dV uvipfour_Head fun (y0 : ipfour_Head) => dEnd (ofG (g y0) rx79)
theorem r79_c {g : ipfour_Head → Option Bool} {y0 : ipfour_Head} {x : Bool} (hx : g y0 = some x) : r79 g [.agg ⟨[.int .i64 y0.Class, .int .i64 y0.Mark, .bool y0.Whole, .int .i64 y0.TTL, .int .i64 y0.Proto, .bool y0.Src.V6, .int .u64 y0.Src.Hi, .int .u64 y0.Src.Lo, .bool y0.Dst.V6, .int .u64 y0.Dst.Hi, .int .u64 y0.Dst.Lo, .string ⟨⟨y0.Options⟩⟩]⟩] [] = some (rx79 x) := (dV_eq (uvipfour_Head_c _)).trans (ofG_eq hx)
def s79 (g : ipfour_Head → Option Bool) : Summ := ⟨[.v], r79 g⟩
theorem r79_eq {g : ipfour_Head → Option Bool} {y0 : ipfour_Head} {x : Bool} (hx : g y0 = some x) : (s79 g).run [.agg ⟨[.int .i64 y0.Class, .int .i64 y0.Mark, .bool y0.Whole, .int .i64 y0.TTL, .int .i64 y0.Proto, .bool y0.Src.V6, .int .u64 y0.Src.Hi, .int .u64 y0.Src.Lo, .bool y0.Dst.V6, .int .u64 y0.Dst.Hi, .int .u64 y0.Dst.Lo, .string ⟨⟨y0.Options⟩⟩]⟩] [] = some (rx79 x) := r79_c hx
abbrev sums79 (ipfour_four : api_Addr → Option Bool) (ipfour_within : Int → Int → Option Bool) : List (Nat × Summ) := [(98, s98 ipfour_four), (97, s97 ipfour_within)]
theorem leads79 (ipfour_four : api_Addr → Option Bool) (ipfour_within : Int → Int → Option Bool) (hS : SumsOK Try.prog (aget (sums79 ipfour_four ipfour_within))) (ha0 : ipfour_Head) (res : Bool) (h : ipfour_Head_mayF ipfour_four ipfour_within ha0 = some res) :
    Leads Try.prog 79 0 ⟨⟨79, 46, [(0, .agg ⟨[.int .i64 ha0.Class, .int .i64 ha0.Mark, .bool ha0.Whole, .int .i64 ha0.TTL, .int .i64 ha0.Proto, .bool ha0.Src.V6, .int .u64 ha0.Src.Hi, .int .u64 ha0.Src.Lo, .bool ha0.Dst.V6, .int .u64 ha0.Dst.Hi, .int .u64 ha0.Dst.Lo, .string ⟨⟨ha0.Options⟩⟩]⟩)], [.code k79_9], [], false, none⟩, [], [], 0⟩ (fun v H _ => Res 0 (rx79 res) v H) := by
  unfold ipfour_Head_mayF at h
  refine ev_ok tab_ok hS true 3000 ?_
  conv => whnf
  replace h := obind.elim h; obtain ⟨w, hy, h⟩ := h
  refine sumK.q rfl rfl (r97_eq hy) rfl rfl rfl ?_
  conv => whnf
  refine br.h h ?_ ?_ ?_
  · rfl
  · clear h; intro hb h; conv => whnf
    all_goals (cases h; exact Res.z rfl rfl rfl)
  clear h; intro hb h; conv => whnf
  replace h := obind.elim h; obtain ⟨w1, hy, h⟩ := h
  refine sumK.q rfl rfl (r97_eq hy) rfl rfl rfl ?_
  conv => whnf
  refine br.h h ?_ ?_ ?_
  · rfl
  · clear h; intro hb h; conv => whnf
    all_goals (cases h; exact Res.z rfl rfl rfl)
  clear h; intro hb h; conv => whnf
  replace h := obind.elim h; obtain ⟨w2, hy, h⟩ := h
  refine sumK.q rfl rfl (r97_eq hy) rfl rfl rfl ?_
  conv => whnf
  refine br.h h ?_ ?_ ?_
  · rfl
  · clear h; intro hb h; conv => whnf
    all_goals (cases h; exact Res.z rfl rfl rfl)
  clear h; intro hb h; conv => whnf
  replace h := obind.elim h; obtain ⟨w3, hy, h⟩ := h
  refine sumK.q rfl rfl (r97_eq hy) rfl rfl rfl ?_
  conv => whnf
  refine br.h h ?_ ?_ ?_
  · rfl
  · clear h; intro hb h; conv => whnf
    all_goals (cases h; exact Res.z rfl rfl rfl)
  clear h; intro hb h; conv => whnf
  replace h := obind.elim h; obtain ⟨f, hy, h⟩ := h
  refine sumK.q rfl rfl (r98_eq hy) rfl rfl rfl ?_
  conv => whnf
  refine br.h2 h ?_ ?_ ?_
  · rfl
  · clear h; intro hb h; conv => whnf
    all_goals (cases h; exact Res.z rfl rfl rfl)
  clear h; intro hb h; conv => whnf
  replace h := obind.elim h; obtain ⟨f1, hy, h⟩ := h
  refine sumK.q rfl rfl (r98_eq hy) rfl rfl rfl ?_
  conv => whnf
  refine br.h2 h ?_ ?_ ?_
  · rfl
  · clear h; intro hb h; conv => whnf
    all_goals (cases h; exact Res.z rfl rfl rfl)
  clear h; intro hb h; conv => whnf
  refine br.h h ?_ ?_ ?_
  · rfl
  · clear h; intro hb h; conv => whnf
    all_goals (cases h; exact Res.z rfl rfl rfl)
  clear h; intro hb h; conv => whnf
  all_goals (cases h; exact Res.z rfl rfl rfl)
theorem ok79 (ipfour_four : api_Addr → Option Bool) (ipfour_within : Int → Int → Option Bool) (hS : SumsOK Try.prog (aget (sums79 ipfour_four ipfour_within))) : SumOK Try.prog 79 (s79 (ipfour_Head_mayF ipfour_four ipfour_within)) := by
  refine SumOK.of_leads tab_ok (fun ar os r ha hr => ?_) ⟨Try.f79, rfl, by decide, rfl⟩
  replace hr : r79 (ipfour_Head_mayF ipfour_four ipfour_within) ar (conts os) = some r := hr
  unfold r79 at hr
  generalize hc : conts os = C at hr
  replace hr := dV.elim hr; obtain ⟨v0, l1, y0, rfl, e0, hr⟩ := hr; obtain rfl := uvipfour_Head_eq _ _ e0
  replace hr := dFin hr; obtain ⟨rfl, rfl, x, h, rfl⟩ := hr
  obtain rfl := kinds_nil hc
  exact ⟨_, rfl, leads79 ipfour_four ipfour_within hS _ x h⟩
def ipfour_Head_may : ipfour_Head → Option Bool := ipfour_Head_mayF ipfour_four ipfour_within
theorem lift79 : SumOK Try.prog 79 (s79 ipfour_Head_may) := ok79 ipfour_four ipfour_within (SumsOK.of_tab ⟨lift98, lift97, trivial⟩)
def ipfour_PutF (addr_Put : api_Addr → Option (List UInt8)) (check_Of : (List UInt8) → Option Int) (check_Set : (List UInt8) → Int → Int → Int → Option (List UInt8)) (ipfour_Head_may : ipfour_Head → Option Bool) (ipfour_row : (List Int) → Option (List UInt8)) (ha0 : ipfour_Head) (payload : List UInt8) : Option ((List UInt8) × Int) :=
  let t := wI .i64 (20 + (ha0.Options.length : Int))
  (ipfour_Head_may ha0).bind fun m =>
  cond (!m)
    (
    some (([], 1)))
    (
    let t1 := decide ((payload.length : Int) > (wI .i64 (65535 - t)))
    cond (t1)
      (
      some (([], 5)))
      (
      cond (ha0.Whole)
        (
        (ipfour_row [iorI .i64 64 (wI .i64 (t.tdiv 4)), 1, ha0.Class, 1, wI .i64 (t + (payload.length : Int)), 2, ha0.Mark, 2, 64, 1, 0, 1, ha0.TTL, 1, ha0.Proto, 1, 0, 2]).bind fun xr =>
        (addr_Put ha0.Src).bind fun p =>
        (addr_Put ha0.Dst).bind fun p1 =>
        oreq (decide (p.length + p1.length < 2 ^ 63)) <|
        oreq (decide ((p ++ p1).length + ha0.Options.length < 2 ^ 63)) <|
        oreq (decide (xr.length + ((p ++ p1) ++ ha0.Options).length < 2 ^ 63)) <|
        (check_Of (xr ++ ((p ++ p1) ++ ha0.Options))).bind fun xo =>
        (check_Set (xr ++ ((p ++ p1) ++ ha0.Options)) 10 2 (wI .u64 xo)).bind fun s =>
        oreq (decide (s.length + payload.length < 2 ^ 63)) <|
        some ((s ++ payload, 0)))
        (
        (ipfour_row [iorI .i64 64 (wI .i64 (t.tdiv 4)), 1, ha0.Class, 1, wI .i64 (t + (payload.length : Int)), 2, ha0.Mark, 2, 0, 1, 0, 1, ha0.TTL, 1, ha0.Proto, 1, 0, 2]).bind fun xr1 =>
        (addr_Put ha0.Src).bind fun p2 =>
        (addr_Put ha0.Dst).bind fun p3 =>
        oreq (decide (p2.length + p3.length < 2 ^ 63)) <|
        oreq (decide ((p2 ++ p3).length + ha0.Options.length < 2 ^ 63)) <|
        oreq (decide (xr1.length + ((p2 ++ p3) ++ ha0.Options).length < 2 ^ 63)) <|
        (check_Of (xr1 ++ ((p2 ++ p3) ++ ha0.Options))).bind fun xo1 =>
        (check_Set (xr1 ++ ((p2 ++ p3) ++ ha0.Options)) 10 2 (wI .u64 xo1)).bind fun s1 =>
        oreq (decide (s1.length + payload.length < 2 ^ 63)) <|
        some ((s1 ++ payload, 0)))))
def rx52 (x : (List UInt8) × Int) : SRes := ⟨.tuple ⟨[.string ⟨⟨x.1⟩⟩, .int .i64 x.2]⟩, [], []⟩
def r52 (g : ipfour_Head → (List UInt8) → Option ((List UInt8) × Int)) : Dec := dV uvipfour_Head fun (y0 : ipfour_Head) => dV asS fun (y1 : List UInt8) => dEnd (ofG (g y0 y1) rx52)
theorem r52_c {g : ipfour_Head → (List UInt8) → Option ((List UInt8) × Int)} {y0 : ipfour_Head} {y1 : List UInt8} {x : (List UInt8) × Int} (hx : g y0 y1 = some x) : r52 g [.agg ⟨[.int .i64 y0.Class, .int .i64 y0.Mark, .bool y0.Whole, .int .i64 y0.TTL, .int .i64 y0.Proto, .bool y0.Src.V6, .int .u64 y0.Src.Hi, .int .u64 y0.Src.Lo, .bool y0.Dst.V6, .int .u64 y0.Dst.Hi, .int .u64 y0.Dst.Lo, .string ⟨⟨y0.Options⟩⟩]⟩, .string ⟨⟨y1⟩⟩] [] = some (rx52 x) := (dV_eq (uvipfour_Head_c _)).trans ((dV_eq (asS_c)).trans (ofG_eq hx))
def s52 (g : ipfour_Head → (List UInt8) → Option ((List UInt8) × Int)) : Summ := ⟨[.v, .v], r52 g⟩
theorem r52_eq {g : ipfour_Head → (List UInt8) → Option ((List UInt8) × Int)} {y0 : ipfour_Head} {y1 : List UInt8} {x : (List UInt8) × Int} (hx : g y0 y1 = some x) : (s52 g).run [.agg ⟨[.int .i64 y0.Class, .int .i64 y0.Mark, .bool y0.Whole, .int .i64 y0.TTL, .int .i64 y0.Proto, .bool y0.Src.V6, .int .u64 y0.Src.Hi, .int .u64 y0.Src.Lo, .bool y0.Dst.V6, .int .u64 y0.Dst.Hi, .int .u64 y0.Dst.Lo, .string ⟨⟨y0.Options⟩⟩]⟩, .string ⟨⟨y1⟩⟩] [] = some (rx52 x) := r52_c hx
abbrev sums52 (addr_Put : api_Addr → Option (List UInt8)) (check_Of : (List UInt8) → Option Int) (check_Set : (List UInt8) → Int → Int → Int → Option (List UInt8)) (ipfour_Head_may : ipfour_Head → Option Bool) (ipfour_row : (List Int) → Option (List UInt8)) : List (Nat × Summ) := [(74, s74 addr_Put), (49, s49 check_Of), (28, s28 check_Set), (79, s79 ipfour_Head_may), (75, s75 ipfour_row)]
theorem leads52 (addr_Put : api_Addr → Option (List UInt8)) (check_Of : (List UInt8) → Option Int) (check_Set : (List UInt8) → Int → Int → Int → Option (List UInt8)) (ipfour_Head_may : ipfour_Head → Option Bool) (ipfour_row : (List Int) → Option (List UInt8)) (hS : SumsOK Try.prog (aget (sums52 addr_Put check_Of check_Set ipfour_Head_may ipfour_row))) (ha0 : ipfour_Head) (payload : List UInt8) (res : (List UInt8) × Int) (h : ipfour_PutF addr_Put check_Of check_Set ipfour_Head_may ipfour_row ha0 payload = some res) :
    Leads Try.prog 52 0 ⟨⟨52, 62, [(0, .agg ⟨[.int .i64 ha0.Class, .int .i64 ha0.Mark, .bool ha0.Whole, .int .i64 ha0.TTL, .int .i64 ha0.Proto, .bool ha0.Src.V6, .int .u64 ha0.Src.Hi, .int .u64 ha0.Src.Lo, .bool ha0.Dst.V6, .int .u64 ha0.Dst.Hi, .int .u64 ha0.Dst.Lo, .string ⟨⟨ha0.Options⟩⟩]⟩), (1, .string ⟨⟨payload⟩⟩)], [.code k52_28], [], false, none⟩, [], [], 0⟩ (fun v H _ => Res 0 (rx52 res) v H) := by
  unfold ipfour_PutF at h
  refine ev_ok tab_ok hS true 3000 ?_
  conv => whnf
  let t : Int := wI .i64 (20 + (ha0.Options.length : Int))
  replace h := obind.elim h; obtain ⟨m, hy, h⟩ := h
  refine sumK.q rfl rfl (r79_eq hy) rfl rfl rfl ?_
  conv => whnf
  refine br.h h ?_ ?_ ?_
  · rfl
  · clear h; intro hb h; conv => whnf
    all_goals (cases h; exact Res.z rfl rfl rfl)
  clear h; intro hb h; conv => whnf
  let t1 : Bool := decide ((payload.length : Int) > (wI .i64 (65535 - t)))
  refine br.h h ?_ ?_ ?_
  · rfl
  · clear h; intro hb h; conv => whnf
    all_goals (cases h; exact Res.z rfl rfl rfl)
  clear h; intro hb h; conv => whnf
  refine br.h h ?_ ?_ ?_
  · rfl
  · clear h; intro hb h; conv => whnf
    replace h := obind.elim h; obtain ⟨xr, hy, h⟩ := h
    refine sumK.introF [] (sumRun_of (aqs := [.slice (some ⟨0, 0, none⟩) ([iorI .i64 64 (wI .i64 (t.tdiv 4)), 1, ha0.Class, 1, wI .i64 (t + (payload.length : Int)), 2, ha0.Mark, 2, 64, 1, 0, 1, ha0.TTL, 1, ha0.Proto, 1, 0, 2] : List Int).length 1]) (ws := [.win 1 0 (18 * 1) false]) (n := 0) (m := 0) (t' := 2) (ra_cons (by first | rfl | exact ra_allI rfl rfl (by first | rfl | omega) (by first | rfl | (simp; done)) | exact ra_slI rfl rfl (by first | rfl | omega) (by first | rfl | omega) (by first | omega | (simp at *; omega))) rfl ra_nil) rfl (by rfl) (r75_eq hy) rfl rfl rfl rfl (wb_skip rfl wb_nil) an_nil rfl) ?_
    conv => whnf
    replace h := obind.elim h; obtain ⟨p, hy, h⟩ := h
    refine sumK.q rfl rfl (r74_eq hy) rfl rfl rfl ?_
    conv => whnf
    replace h := obind.elim h; obtain ⟨p1, hy, h⟩ := h
    refine sumK.q rfl rfl (r74_eq hy) rfl rfl rfl ?_
    conv => whnf
    replace h := oreq.elim h; obtain ⟨hb, h⟩ := h
    first | (refine req.intro hb ?_; conv => whnf) | skip
    replace h := oreq.elim h; obtain ⟨hb, h⟩ := h
    first | (refine req.intro hb ?_; conv => whnf) | skip
    replace h := oreq.elim h; obtain ⟨hb, h⟩ := h
    first | (refine req.intro hb ?_; conv => whnf) | skip
    replace h := obind.elim h; obtain ⟨xo, hy, h⟩ := h
    refine sumK.q rfl rfl (r49_eq hy) rfl rfl rfl ?_
    conv => whnf
    replace h := obind.elim h; obtain ⟨s, hy, h⟩ := h
    refine sumK.q rfl rfl (r28_eq hy) rfl rfl rfl ?_
    conv => whnf
    replace h := oreq.elim h; obtain ⟨hb, h⟩ := h
    first | (refine req.intro hb ?_; conv => whnf) | skip
    all_goals (cases h; exact Res.z rfl rfl rfl)
  clear h; intro hb h; conv => whnf
  replace h := obind.elim h; obtain ⟨xr1, hy, h⟩ := h
  refine sumK.introF [] (sumRun_of (aqs := [.slice (some ⟨0, 0, none⟩) ([iorI .i64 64 (wI .i64 (t.tdiv 4)), 1, ha0.Class, 1, wI .i64 (t + (payload.length : Int)), 2, ha0.Mark, 2, 0, 1, 0, 1, ha0.TTL, 1, ha0.Proto, 1, 0, 2] : List Int).length 1]) (ws := [.win 1 0 (18 * 1) false]) (n := 0) (m := 0) (t' := 2) (ra_cons (by first | rfl | exact ra_allI rfl rfl (by first | rfl | omega) (by first | rfl | (simp; done)) | exact ra_slI rfl rfl (by first | rfl | omega) (by first | rfl | omega) (by first | omega | (simp at *; omega))) rfl ra_nil) rfl (by rfl) (r75_eq hy) rfl rfl rfl rfl (wb_skip rfl wb_nil) an_nil rfl) ?_
  conv => whnf
  replace h := obind.elim h; obtain ⟨p2, hy, h⟩ := h
  refine sumK.q rfl rfl (r74_eq hy) rfl rfl rfl ?_
  conv => whnf
  replace h := obind.elim h; obtain ⟨p3, hy, h⟩ := h
  refine sumK.q rfl rfl (r74_eq hy) rfl rfl rfl ?_
  conv => whnf
  replace h := oreq.elim h; obtain ⟨hb, h⟩ := h
  first | (refine req.intro hb ?_; conv => whnf) | skip
  replace h := oreq.elim h; obtain ⟨hb, h⟩ := h
  first | (refine req.intro hb ?_; conv => whnf) | skip
  replace h := oreq.elim h; obtain ⟨hb, h⟩ := h
  first | (refine req.intro hb ?_; conv => whnf) | skip
  replace h := obind.elim h; obtain ⟨xo1, hy, h⟩ := h
  refine sumK.q rfl rfl (r49_eq hy) rfl rfl rfl ?_
  conv => whnf
  replace h := obind.elim h; obtain ⟨s1, hy, h⟩ := h
  refine sumK.q rfl rfl (r28_eq hy) rfl rfl rfl ?_
  conv => whnf
  replace h := oreq.elim h; obtain ⟨hb, h⟩ := h
  first | (refine req.intro hb ?_; conv => whnf) | skip
  all_goals (cases h; exact Res.z rfl rfl rfl)
theorem ok52 (addr_Put : api_Addr → Option (List UInt8)) (check_Of : (List UInt8) → Option Int) (check_Set : (List UInt8) → Int → Int → Int → Option (List UInt8)) (ipfour_Head_may : ipfour_Head → Option Bool) (ipfour_row : (List Int) → Option (List UInt8)) (hS : SumsOK Try.prog (aget (sums52 addr_Put check_Of check_Set ipfour_Head_may ipfour_row))) : SumOK Try.prog 52 (s52 (ipfour_PutF addr_Put check_Of check_Set ipfour_Head_may ipfour_row)) := by
  refine SumOK.of_leads tab_ok (fun ar os r ha hr => ?_) ⟨Try.f52, rfl, by decide, rfl⟩
  replace hr : r52 (ipfour_PutF addr_Put check_Of check_Set ipfour_Head_may ipfour_row) ar (conts os) = some r := hr
  unfold r52 at hr
  generalize hc : conts os = C at hr
  replace hr := dV.elim hr; obtain ⟨v0, l1, y0, rfl, e0, hr⟩ := hr; obtain rfl := uvipfour_Head_eq _ _ e0
  replace hr := dV.elim hr; obtain ⟨v1, l2, y1, rfl, e1, hr⟩ := hr; obtain rfl := asS_eq _ _ e1
  replace hr := dFin hr; obtain ⟨rfl, rfl, x, h, rfl⟩ := hr
  obtain rfl := kinds_nil hc
  exact ⟨_, rfl, leads52 addr_Put check_Of check_Set ipfour_Head_may ipfour_row hS _ _ x h⟩
def ipfour_Put : ipfour_Head → (List UInt8) → Option ((List UInt8) × Int) := ipfour_PutF addr_Put check_Of check_Set ipfour_Head_may ipfour_row
theorem lift52 : SumOK Try.prog 52 (s52 ipfour_Put) := ok52 addr_Put check_Of check_Set ipfour_Head_may ipfour_row (SumsOK.of_tab ⟨lift74, lift49, lift28, lift79, lift75, trivial⟩)
end Go.Vm.Code
namespace Go.Vm.Code
open Go Go.Vm
theorem within5_eq (n m : Int) : ipfour_within n m = some (inR n m) := by
  unfold ipfour_within ipfour_withinF inR
  by_cases h : 0 ≤ n
  · rw [cond_p h]; simp [h]
  · rw [cond_n h]; simp [h]
def four (a : api_Addr) : Bool := !a.V6 && aok a
theorem four_eq (a : api_Addr) : ipfour_four a = some (four a) := by
  unfold ipfour_four ipfour_fourF four
  rw [aRight_eq]; cases a.V6 <;> rfl
def H5 (h : ipfour_Head) : Bool := inR h.Class 255 && inR h.Mark 65535 && inR h.TTL 255 && inR h.Proto 255 && four h.Src && four h.Dst && decide (h.Options.length % 4 = 0) && decide (h.Options.length ≤ 40)
theorem may5_eq (h : ipfour_Head) : ipfour_Head_may h = some (H5 h) := by
  unfold ipfour_Head_may ipfour_Head_mayF H5
  simp only [within5_eq, four_eq, Option.bind_some, opt_mod, opt_le]
  cases inR h.Class 255 <;> cases inR h.Mark 65535 <;> cases inR h.TTL 255 <;> cases inR h.Proto 255 <;> cases four h.Src <;> cases four h.Dst <;> cases decide (h.Options.length % 4 = 0) <;> rfl
def hd5 (h : ipfour_Head) (n : Int) : List UInt8 :=
  putS (64 + ((20 + h.Options.length) / 4 : Nat)) 1 ++ putS h.Class 1 ++ putS n 2 ++ putS h.Mark 2 ++ putS (cond h.Whole 64 0) 1 ++ putS 0 1 ++ putS h.TTL 1 ++ putS h.Proto 1 ++ putS 0 2 ++ abytes h.Src ++ abytes h.Dst ++ h.Options
theorem hd5_len (h : ipfour_Head) (n : Int) : (hd5 h n).length ≤ 104 + h.Options.length := by
  have a1 := putS_len (64 + ((20 + h.Options.length) / 4 : Nat)) 1
  have a2 := putS_len h.Class 1
  have a3 := putS_len n 2
  have a4 := putS_len h.Mark 2
  have a5 := putS_len (cond h.Whole 64 0) 1
  have a6 := putS_len 0 1
  have a7 := putS_len h.TTL 1
  have a8 := putS_len h.Proto 1
  have a9 := putS_len 0 2
  have b1 : (abytes h.Src).length ≤ 16 := by rw [abytes_len]; cases h.Src.V6 <;> decide
  have b2 : (abytes h.Dst).length ≤ 16 := by rw [abytes_len]; cases h.Dst.V6 <;> decide
  unfold hd5
  simp only [List.length_append]; omega
def put5 (h : ipfour_Head) (l : List UInt8) : List UInt8 × Int :=
  if H5 h = false then ([], 1) else if 65535 - (20 + (h.Options.length : Int)) < l.length then ([], 5) else
    (setS (hd5 h (20 + h.Options.length + l.length)) 10 2 (65535 - (norm (wsum (hd5 h (20 + h.Options.length + l.length))) : Nat)) ++ l, 0)
theorem setS_len (s : List UInt8) (p k n : Int) : (setS s p k n).length ≤ s.length + 8 := by
  unfold setS
  split
  · simp; omega
  · omega
theorem put5_fin {t l : List UInt8} (ht : t.length ≤ 2 ^ 20) (hl : l.length < 2 ^ 30) : ((check_Of t).bind fun xo => (check_Set t 10 2 (wI .u64 xo)).bind fun s => oreq (decide (s.length + l.length < 2 ^ 63)) (some (s ++ l, (0 : Int)))) = some (setS t 10 2 (65535 - (norm (wsum t) : Nat)) ++ l, 0) := by
  have := norm_le (wsum t)
  have hs := setS_len t 10 2 (65535 - (norm (wsum t) : Nat))
  rw [Of_eq (by omega), Option.bind_some, wU64 (by omega) (by omega), Set_eq (by omega) (by omega), Option.bind_some, oreq_p (by omega)]
theorem H5_inv {h : ipfour_Head} (hh : H5 h = true) : (0 ≤ h.Class ∧ h.Class ≤ 255) ∧ (0 ≤ h.Mark ∧ h.Mark ≤ 65535) ∧ (0 ≤ h.TTL ∧ h.TTL ≤ 255) ∧ (0 ≤ h.Proto ∧ h.Proto ≤ 255) ∧ (h.Src.V6 = false ∧ aok h.Src = true) ∧ (h.Dst.V6 = false ∧ aok h.Dst = true) ∧ h.Options.length % 4 = 0 ∧ h.Options.length ≤ 40 := by
  unfold H5 four at hh
  simp only [Bool.and_eq_true, inR_iff, Bool.not_eq_true', decide_eq_true_eq] at hh
  obtain ⟨⟨⟨⟨⟨⟨⟨a, b⟩, c⟩, d⟩, e⟩, f⟩, g⟩, i⟩ := hh
  exact ⟨a, b, c, d, e, f, g, i⟩
theorem p5_eq {h : ipfour_Head} {l : List UInt8} (h1 : A4 h.Src) (h2 : A4 h.Dst) (hl : l.length < 2 ^ 20) (ho : h.Options.length < 2 ^ 20) : ipfour_Put h l = some (put5 h l) := by
  unfold ipfour_Put ipfour_PutF put5
  rw [may5_eq, Option.bind_some]
  cases hh : H5 h
  · rfl
  obtain ⟨q1, q2, q3, q4, q5, q6, q7, q8⟩ := H5_inv hh
  simp only [Bool.not_true, cond_false]
  rw [if_neg (by decide), wI64 (n := 20 + (h.Options.length : Int)) (by omega) (by omega), wI64 (n := 65535 - (20 + (h.Options.length : Int))) (by omega) (by omega)]
  by_cases h5 : (l.length : Int) > 65535 - (20 + (h.Options.length : Int))
  · rw [cond_p h5, if_pos (by omega)]
  rw [cond_n h5, if_neg (by omega)]
  have b1 : (abytes h.Src).length ≤ 16 := by rw [abytes_len]; cases h.Src.V6 <;> decide
  have b2 : (abytes h.Dst).length ≤ 16 := by rw [abytes_len]; cases h.Dst.V6 <;> decide
  have eo : iorI .i64 64 (wI .i64 (((20 + h.Options.length) / 4 : Nat) : Int)) = 64 + (((20 + h.Options.length) / 4 : Nat) : Int) := by
    rw [wI64 (by omega) (by omega)]
    exact iorI64_low 4 (a := 4) (by omega) (by omega) (by omega) (by omega) (by omega)
  have hlen := hd5_len h (20 + h.Options.length + l.length)
  have key : ∀ fl : Int, fl = cond h.Whole 64 0 → ((ipfour_row [64 + (((20 + h.Options.length) / 4 : Nat) : Int), 1, h.Class, 1, 20 + (h.Options.length : Int) + l.length, 2, h.Mark, 2, fl, 1, 0, 1, h.TTL, 1, h.Proto, 1, 0, 2]).bind fun xr => oreq (decide ((abytes h.Src).length + (abytes h.Dst).length < 2 ^ 63)) <| oreq (decide ((abytes h.Src ++ abytes h.Dst).length + h.Options.length < 2 ^ 63)) <| oreq (decide (xr.length + ((abytes h.Src ++ abytes h.Dst) ++ h.Options).length < 2 ^ 63)) <|
      (check_Of (xr ++ ((abytes h.Src ++ abytes h.Dst) ++ h.Options))).bind fun xo => (check_Set (xr ++ ((abytes h.Src ++ abytes h.Dst) ++ h.Options)) 10 2 (wI .u64 xo)).bind fun s => oreq (decide (s.length + l.length < 2 ^ 63)) (some (s ++ l, (0 : Int)))) = some (setS (hd5 h (20 + h.Options.length + l.length)) 10 2 (65535 - (norm (wsum (hd5 h (20 + h.Options.length + l.length))) : Nat)) ++ l, 0) := by
    intro fl hfl
    have hfr : 0 ≤ fl ∧ fl ≤ 64 := by subst hfl; cases h.Whole <;> decide
    have hrow : rowS [64 + (((20 + h.Options.length) / 4 : Nat) : Int), 1, h.Class, 1, 20 + (h.Options.length : Int) + l.length, 2, h.Mark, 2, fl, 1, 0, 1, h.TTL, 1, h.Proto, 1, 0, 2] = putS (64 + ((20 + h.Options.length) / 4 : Nat)) 1 ++ (putS h.Class 1 ++ (putS (20 + (h.Options.length : Int) + l.length) 2 ++ (putS h.Mark 2 ++ (putS fl 1 ++ (putS 0 1 ++ (putS h.TTL 1 ++ (putS h.Proto 1 ++ (putS 0 2 ++ [])))))))) := by
      simp only [rowS]
      rw [wU64 (n := 64 + (((20 + h.Options.length) / 4 : Nat) : Int)) (by omega) (by omega), wU64 q1.1 (by omega), wU64 (n := 20 + (h.Options.length : Int) + l.length) (by omega) (by omega), wU64 q2.1 (by omega), wU64 hfr.1 (by omega), wU64 q3.1 (by omega), wU64 q4.1 (by omega), show wI .u64 0 = 0 from rfl]
    rw [rowG_eq (by simp) (by simp) (by simp), hrow, Option.bind_some]
    have e : putS (64 + ((20 + h.Options.length) / 4 : Nat)) 1 ++ (putS h.Class 1 ++ (putS (20 + (h.Options.length : Int) + l.length) 2 ++ (putS h.Mark 2 ++ (putS fl 1 ++ (putS 0 1 ++ (putS h.TTL 1 ++ (putS h.Proto 1 ++ (putS 0 2 ++ [])))))))) ++ (abytes h.Src ++ abytes h.Dst ++ h.Options) = hd5 h (20 + h.Options.length + l.length) := by
      subst hfl; unfold hd5; simp only [List.append_assoc, List.append_nil]
    have hl2 := congrArg List.length e
    rw [List.length_append] at hl2
    rw [oreq_p (by omega), oreq_p (by simp only [List.length_append]; omega), oreq_p (by omega), e]
    exact put5_fin (by omega) (by omega)
  rw [wI64 (n := 20 + (h.Options.length : Int) + l.length) (by omega) (by omega), tdiv4, eo, aPut_eq h1 q5.2, aPut_eq h2 q6.2]
  simp only [Option.bind_some]
  cases hw : h.Whole
  · rw [cond_false]
    have := key 0 (by rw [hw]; rfl)
    rw [hw] at *
    exact this
  · rw [cond_true]
    have := key 64 (by rw [hw]; rfl)
    exact this
theorem parts5 {a b n m f g t p c x y r : List UInt8} (ha : a.length = 1) (hb : b.length = 1) (hn : n.length = 2) (hm : m.length = 2) (hf : f.length = 1) (hg : g.length = 1) (ht : t.length = 1) (hp : p.length = 1) (hc : c.length = 2) (hx : x.length = 4) (hy : y.length = 4) :
    let s := a ++ b ++ n ++ m ++ f ++ g ++ t ++ p ++ c ++ x ++ y ++ r
    (s.drop 0).take 1 = a ∧ (s.drop 1).take 1 = b ∧ (s.drop 2).take 2 = n ∧ (s.drop 4).take 2 = m ∧ (s.drop 6).take 2 = f ++ g ∧ (s.drop 8).take 1 = t ∧ (s.drop 9).take 1 = p ∧ (s.drop 12).take 4 = x ∧ (s.drop 16).take 4 = y ∧ s.drop 20 = r ∧ s.take 10 = a ++ b ++ n ++ m ++ f ++ g ++ t ++ p ∧ s.drop 12 = x ++ y ++ r := by
  obtain ⟨a1, rfl⟩ := l1 ha
  obtain ⟨b1, rfl⟩ := l1 hb
  obtain ⟨n1, n2, rfl⟩ := l2 hn
  obtain ⟨m1, m2, rfl⟩ := l2 hm
  obtain ⟨f1, rfl⟩ := l1 hf
  obtain ⟨g1, rfl⟩ := l1 hg
  obtain ⟨t1, rfl⟩ := l1 ht
  obtain ⟨p1, rfl⟩ := l1 hp
  obtain ⟨c1, c2, rfl⟩ := l2 hc
  obtain ⟨x1, x2, x3, x4, rfl⟩ := l4 hx
  obtain ⟨y1, y2, y3, y4, rfl⟩ := l4 hy
  exact ⟨rfl, rfl, rfl, rfl, rfl, rfl, rfl, rfl, rfl, rfl, rfl, rfl⟩
def hc5 (h : ipfour_Head) (n c : Nat) : List UInt8 :=
  be (64 + (20 + h.Options.length) / 4) 1 ++ be h.Class.toNat 1 ++ be n 2 ++ be h.Mark.toNat 2 ++ be (cond h.Whole 64 0) 1 ++ be 0 1 ++ be h.TTL.toNat 1 ++ be h.Proto.toNat 1 ++ be c 2 ++ be h.Src.Lo.toNat 4 ++ be h.Dst.Lo.toNat 4 ++ h.Options
theorem hc5_len (h : ipfour_Head) (n c : Nat) : (hc5 h n c).length = 20 + h.Options.length := by simp [hc5]; omega
theorem pu1 (n : Int) : putS n 1 = be n.toNat 1 := putS_be (k := 1) (by omega)
theorem pu2 (n : Int) : putS n 2 = be n.toNat 2 := putS_be (k := 2) (by omega)
theorem hd5_hc {h : ipfour_Head} {n : Nat} (h1 : h.Src.V6 = false) (h2 : h.Dst.V6 = false) : hd5 h (n : Int) = hc5 h n 0 := by
  have e : (64 + ((20 + h.Options.length) / 4 : Nat) : Int).toNat = 64 + (20 + h.Options.length) / 4 := by omega
  have ew : (cond h.Whole 64 0 : Int).toNat = cond h.Whole 64 0 := by cases h.Whole <;> rfl
  unfold hd5 hc5 abytes
  rw [h1, h2]
  simp only [pu1, pu2, cond_false, Int.toNat_natCast, e, ew]
  rfl
theorem hc5_parts (h : ipfour_Head) (n c : Nat) (r : List UInt8) : let s := hc5 h n c ++ r
    (s.drop 0).take 1 = be (64 + (20 + h.Options.length) / 4) 1 ∧ (s.drop 1).take 1 = be h.Class.toNat 1 ∧ (s.drop 2).take 2 = be n 2 ∧ (s.drop 4).take 2 = be h.Mark.toNat 2 ∧ (s.drop 6).take 2 = be (cond h.Whole 64 0) 1 ++ be 0 1 ∧ (s.drop 8).take 1 = be h.TTL.toNat 1 ∧ (s.drop 9).take 1 = be h.Proto.toNat 1 ∧ (s.drop 12).take 4 = be h.Src.Lo.toNat 4 ∧ (s.drop 16).take 4 = be h.Dst.Lo.toNat 4 ∧ s.drop 20 = h.Options ++ r ∧ s.take 10 = be (64 + (20 + h.Options.length) / 4) 1 ++ be h.Class.toNat 1 ++ be n 2 ++ be h.Mark.toNat 2 ++ be (cond h.Whole 64 0) 1 ++ be 0 1 ++ be h.TTL.toNat 1 ++ be h.Proto.toNat 1 ∧ s.drop 12 = be h.Src.Lo.toNat 4 ++ be h.Dst.Lo.toNat 4 ++ (h.Options ++ r) := by
  have e : hc5 h n c ++ r = be (64 + (20 + h.Options.length) / 4) 1 ++ be h.Class.toNat 1 ++ be n 2 ++ be h.Mark.toNat 2 ++ be (cond h.Whole 64 0) 1 ++ be 0 1 ++ be h.TTL.toNat 1 ++ be h.Proto.toNat 1 ++ be c 2 ++ be h.Src.Lo.toNat 4 ++ be h.Dst.Lo.toNat 4 ++ (h.Options ++ r) := by simp only [hc5, List.append_assoc]
  rw [e]
  exact parts5 (be_len _ _) (be_len _ _) (be_len _ _) (be_len _ _) (be_len _ _) (be_len _ _) (be_len _ _) (be_len _ _) (be_len _ _) (be_len _ _) (be_len _ _)
theorem set_hc {h : ipfour_Head} {n : Nat} {c : Int} : setS (hc5 h n 0) 10 2 c = hc5 h n c.toNat := by
  obtain ⟨_, _, _, _, _, _, _, _, _, _, q11, q12⟩ := hc5_parts h n 0 []
  simp only [List.append_nil] at q11 q12
  unfold setS
  rw [if_pos (by rw [hc5_len]; omega), show (10 : Int).toNat = 10 from rfl, show ((10 : Int) + 2).toNat = 12 from rfl, q11, q12]
  unfold hc5
  simp only [List.append_assoc]; rfl
theorem hc5_sum {h : ipfour_Head} {n c : Nat} (hc : c < 65536) : wsum (hc5 h n c) = wsum (hc5 h n 0) + c := by
  have e : ∀ x, hc5 h n x = (be (64 + (20 + h.Options.length) / 4) 1 ++ be h.Class.toNat 1 ++ be n 2 ++ be h.Mark.toNat 2 ++ be (cond h.Whole 64 0) 1 ++ be 0 1 ++ be h.TTL.toNat 1 ++ be h.Proto.toNat 1) ++ (be x 2 ++ (be h.Src.Lo.toNat 4 ++ be h.Dst.Lo.toNat 4 ++ h.Options)) := fun x => by simp only [hc5, List.append_assoc]
  have hA : (be (64 + (20 + h.Options.length) / 4) 1 ++ be h.Class.toNat 1 ++ be n 2 ++ be h.Mark.toNat 2 ++ be (cond h.Whole 64 0) 1 ++ be 0 1 ++ be h.TTL.toNat 1 ++ be h.Proto.toNat 1).length % 2 = 0 := by simp
  rw [e c, e 0]
  generalize be (64 + (20 + h.Options.length) / 4) 1 ++ be h.Class.toNat 1 ++ be n 2 ++ be h.Mark.toNat 2 ++ be (cond h.Whole 64 0) 1 ++ be 0 1 ++ be h.TTL.toNat 1 ++ be h.Proto.toNat 1 = A at hA
  rw [wsum_append _ _ hA, wsum_append _ _ hA, wsum_append (be c 2) _ (by simp), wsum_append (be 0 2) _ (by simp), wsum_be2 hc, wsum_be2 (by omega)]; omega
theorem wflag (b : Bool) : be (cond b 64 0) 1 ++ be 0 1 = be (cond b 16384 0) 2 := by cases b <;> rfl
def ck5 (h : ipfour_Head) (n : Nat) : Nat := 65535 - norm (wsum (hc5 h n 0))
theorem ck5_ok (h : ipfour_Head) (n : Nat) : ck5 h n ≤ 65535 ∧ wsum (hc5 h n (ck5 h n)) % 65535 = 0 ∧ wsum (hc5 h n (ck5 h n)) ≠ 0 := by
  have n1 := norm_le (wsum (hc5 h n 0))
  have n2 := norm_mod (wsum (hc5 h n 0))
  have n3 := norm_zero (wsum (hc5 h n 0))
  have hk : ck5 h n < 65536 := by unfold ck5; omega
  rw [hc5_sum hk]
  unfold ck5; omega
end Go.Vm.Code
namespace Go.Vm.Code
open Go Go.Vm Go.Proofs
set_option maxRecDepth 100000
set_option maxHeartbeats 4000000
set_option linter.unusedVariables false
def ipsix_Head_mayF (ha0 : ipsix_Head) : Option Bool :=
  cond (decide (ha0.Class < 0))
    (
    some (false))
    (
    cond (decide (ha0.Class > 255))
      (
      some (false))
      (
      cond (decide (ha0.Label < 0))
        (
        some (false))
        (
        cond (decide (ha0.Label > 1048575))
          (
          some (false))
          (
          cond (decide (ha0.Next < 0))
            (
            some (false))
            (
            cond (decide (ha0.Next > 255))
              (
              some (false))
              (
              cond (decide (ha0.Hop < 0))
                (
                some (false))
                (
                cond (decide (ha0.Hop > 255))
                  (
                  some (false))
                  (
                  cond (ha0.Src.V6)
                    (
                    some (ha0.Dst.V6))
                    (
                    some (false))))))))))
def rx78 (x : Bool) : SRes := ⟨.bool x, [], []⟩
def r78 (g : ipsix_Head → Option Bool) : Dec := dV uvipsix_Head fun (y0 : ipsix_Head) => dEnd (ofG (g y0) rx78)
theorem r78_c {g : ipsix_Head → Option Bool} {y0 : ipsix_Head} {x : Bool} (hx : g y0 = some x) : r78 g [.agg ⟨[.int .i64 y0.Class, .int .i64 y0.Label, .int .i64 y0.Next, .int .i64 y0.Hop, .bool y0.Src.V6, .int .u64 y0.Src.Hi, .int .u64 y0.Src.Lo, .bool y0.Dst.V6, .int .u64 y0.Dst.Hi, .int .u64 y0.Dst.Lo]⟩] [] = some (rx78 x) := (dV_eq (uvipsix_Head_c _)).trans (ofG_eq hx)
def s78 (g : ipsix_Head → Option Bool) : Summ := ⟨[.v], r78 g⟩
theorem r78_eq {g : ipsix_Head → Option Bool} {y0 : ipsix_Head} {x : Bool} (hx : g y0 = some x) : (s78 g).run [.agg ⟨[.int .i64 y0.Class, .int .i64 y0.Label, .int .i64 y0.Next, .int .i64 y0.Hop, .bool y0.Src.V6, .int .u64 y0.Src.Hi, .int .u64 y0.Src.Lo, .bool y0.Dst.V6, .int .u64 y0.Dst.Hi, .int .u64 y0.Dst.Lo]⟩] [] = some (rx78 x) := r78_c hx
abbrev sums78 : List (Nat × Summ) := []
theorem leads78 (hS : SumsOK Try.prog (aget (sums78))) (ha0 : ipsix_Head) (res : Bool) (h : ipsix_Head_mayF ha0 = some res) :
    Leads Try.prog 78 0 ⟨⟨78, 42, [(0, .agg ⟨[.int .i64 ha0.Class, .int .i64 ha0.Label, .int .i64 ha0.Next, .int .i64 ha0.Hop, .bool ha0.Src.V6, .int .u64 ha0.Src.Hi, .int .u64 ha0.Src.Lo, .bool ha0.Dst.V6, .int .u64 ha0.Dst.Hi, .int .u64 ha0.Dst.Lo]⟩)], [.code k78_22], [], false, none⟩, [], [], 0⟩ (fun v H _ => Res 0 (rx78 res) v H) := by
  unfold ipsix_Head_mayF at h
  refine ev_ok tab_ok hS true 3000 ?_
  conv => whnf
  refine ev_ok tab_ok hS true 3000 ?_
  conv => whnf
  refine br.h h ?_ ?_ ?_
  · rfl
  · clear h; intro hb h; conv => whnf
    all_goals (cases h; exact Res.z rfl rfl rfl)
  clear h; intro hb h; conv => whnf
  refine br.h h ?_ ?_ ?_
  · rfl
  · clear h; intro hb h; conv => whnf
    all_goals (cases h; exact Res.z rfl rfl rfl)
  clear h; intro hb h; conv => whnf
  refine ev_ok tab_ok hS true 3000 ?_
  conv => whnf
  refine br.h h ?_ ?_ ?_
  · rfl
  · clear h; intro hb h; conv => whnf
    all_goals (cases h; exact Res.z rfl rfl rfl)
  clear h; intro hb h; conv => whnf
  refine br.h h ?_ ?_ ?_
  · rfl
  · clear h; intro hb h; conv => whnf
    all_goals (cases h; exact Res.z rfl rfl rfl)
  clear h; intro hb h; conv => whnf
  refine ev_ok tab_ok hS true 3000 ?_
  conv => whnf
  refine br.h h ?_ ?_ ?_
  · rfl
  · clear h; intro hb h; conv => whnf
    all_goals (cases h; exact Res.z rfl rfl rfl)
  clear h; intro hb h; conv => whnf
  refine br.h h ?_ ?_ ?_
  · rfl
  · clear h; intro hb h; conv => whnf
    all_goals (cases h; exact Res.z rfl rfl rfl)
  clear h; intro hb h; conv => whnf
  refine ev_ok tab_ok hS true 3000 ?_
  conv => whnf
  refine br.h h ?_ ?_ ?_
  · rfl
  · clear h; intro hb h; conv => whnf
    all_goals (cases h; exact Res.z rfl rfl rfl)
  clear h; intro hb h; conv => whnf
  refine br.h h ?_ ?_ ?_
  · rfl
  · clear h; intro hb h; conv => whnf
    all_goals (cases h; exact Res.z rfl rfl rfl)
  clear h; intro hb h; conv => whnf
  refine ev_ok tab_ok hS true 3000 ?_
  conv => whnf
  refine br.h h ?_ ?_ ?_
  · rfl
  · clear h; intro hb h; conv => whnf
    all_goals (cases h; exact Res.z rfl rfl rfl)
  clear h; intro hb h; conv => whnf
  all_goals (cases h; exact Res.z rfl rfl rfl)
theorem ok78 (hS : SumsOK Try.prog (aget (sums78))) : SumOK Try.prog 78 (s78 (ipsix_Head_mayF)) := by
  refine SumOK.of_leads tab_ok (fun ar os r ha hr => ?_) ⟨Try.f78, rfl, by decide, rfl⟩
  replace hr : r78 (ipsix_Head_mayF) ar (conts os) = some r := hr
  unfold r78 at hr
  generalize hc : conts os = C at hr
  replace hr := dV.elim hr; obtain ⟨v0, l1, y0, rfl, e0, hr⟩ := hr; obtain rfl := uvipsix_Head_eq _ _ e0
  replace hr := dFin hr; obtain ⟨rfl, rfl, x, h, rfl⟩ := hr
  obtain rfl := kinds_nil hc
  exact ⟨_, rfl, leads78 hS _ x h⟩
def ipsix_Head_may : ipsix_Head → Option Bool := ipsix_Head_mayF
theorem lift78 : SumOK Try.prog 78 (s78 ipsix_Head_may) := ok78 (SumsOK.of_tab trivial)
def ipsix_PutF (addr_Put : api_Addr → Option (List UInt8)) (ipsix_Head_may : ipsix_Head → Option Bool) (octet_Put : Int → Int → Option (List UInt8)) (ha0 : ipsix_Head) (payload : List UInt8) : Option ((List UInt8) × Int) :=
  (ipsix_Head_may ha0).bind fun m =>
  cond (!m)
    (
    some (([], 1)))
    (
    cond (decide ((payload.length : Int) > 65535))
      (
      some (([], 5)))
      (
      let t := iorI .u64 1610612736 (wI .u64 ((wI .u64 ha0.Class) * 2 ^ 20))
      (octet_Put (iorI .u64 t (wI .u64 ha0.Label)) 4).bind fun p =>
      let t1 := wI .u64 ((wI .u64 (payload.length : Int)) * 2 ^ 16)
      let t2 := iorI .u64 t1 (wI .u64 ((wI .u64 ha0.Next) * 2 ^ 8))
      (octet_Put (iorI .u64 t2 (wI .u64 ha0.Hop)) 4).bind fun p1 =>
      oreq (decide (p.length + p1.length < 2 ^ 63)) <|
      (addr_Put ha0.Src).bind fun p2 =>
      oreq (decide ((p ++ p1).length + p2.length < 2 ^ 63)) <|
      (addr_Put ha0.Dst).bind fun p3 =>
      oreq (decide (((p ++ p1) ++ p2).length + p3.length < 2 ^ 63)) <|
      oreq (decide ((((p ++ p1) ++ p2) ++ p3).length + payload.length < 2 ^ 63)) <|
      some (((((p ++ p1) ++ p2) ++ p3) ++ payload, 0))))
def rx51 (x : (List UInt8) × Int) : SRes := ⟨.tuple ⟨[.string ⟨⟨x.1⟩⟩, .int .i64 x.2]⟩, [], []⟩
def r51 (g : ipsix_Head → (List UInt8) → Option ((List UInt8) × Int)) : Dec := dV uvipsix_Head fun (y0 : ipsix_Head) => dV asS fun (y1 : List UInt8) => dEnd (ofG (g y0 y1) rx51)
theorem r51_c {g : ipsix_Head → (List UInt8) → Option ((List UInt8) × Int)} {y0 : ipsix_Head} {y1 : List UInt8} {x : (List UInt8) × Int} (hx : g y0 y1 = some x) : r51 g [.agg ⟨[.int .i64 y0.Class, .int .i64 y0.Label, .int .i64 y0.Next, .int .i64 y0.Hop, .bool y0.Src.V6, .int .u64 y0.Src.Hi, .int .u64 y0.Src.Lo, .bool y0.Dst.V6, .int .u64 y0.Dst.Hi, .int .u64 y0.Dst.Lo]⟩, .string ⟨⟨y1⟩⟩] [] = some (rx51 x) := (dV_eq (uvipsix_Head_c _)).trans ((dV_eq (asS_c)).trans (ofG_eq hx))
def s51 (g : ipsix_Head → (List UInt8) → Option ((List UInt8) × Int)) : Summ := ⟨[.v, .v], r51 g⟩
theorem r51_eq {g : ipsix_Head → (List UInt8) → Option ((List UInt8) × Int)} {y0 : ipsix_Head} {y1 : List UInt8} {x : (List UInt8) × Int} (hx : g y0 y1 = some x) : (s51 g).run [.agg ⟨[.int .i64 y0.Class, .int .i64 y0.Label, .int .i64 y0.Next, .int .i64 y0.Hop, .bool y0.Src.V6, .int .u64 y0.Src.Hi, .int .u64 y0.Src.Lo, .bool y0.Dst.V6, .int .u64 y0.Dst.Hi, .int .u64 y0.Dst.Lo]⟩, .string ⟨⟨y1⟩⟩] [] = some (rx51 x) := r51_c hx
abbrev sums51 (addr_Put : api_Addr → Option (List UInt8)) (ipsix_Head_may : ipsix_Head → Option Bool) (octet_Put : Int → Int → Option (List UInt8)) : List (Nat × Summ) := [(74, s74 addr_Put), (78, s78 ipsix_Head_may), (44, s44 octet_Put)]
theorem leads51 (addr_Put : api_Addr → Option (List UInt8)) (ipsix_Head_may : ipsix_Head → Option Bool) (octet_Put : Int → Int → Option (List UInt8)) (hS : SumsOK Try.prog (aget (sums51 addr_Put ipsix_Head_may octet_Put))) (ha0 : ipsix_Head) (payload : List UInt8) (res : (List UInt8) × Int) (h : ipsix_PutF addr_Put ipsix_Head_may octet_Put ha0 payload = some res) :
    Leads Try.prog 51 0 ⟨⟨51, 53, [(0, .agg ⟨[.int .i64 ha0.Class, .int .i64 ha0.Label, .int .i64 ha0.Next, .int .i64 ha0.Hop, .bool ha0.Src.V6, .int .u64 ha0.Src.Hi, .int .u64 ha0.Src.Lo, .bool ha0.Dst.V6, .int .u64 ha0.Dst.Hi, .int .u64 ha0.Dst.Lo]⟩), (1, .string ⟨⟨payload⟩⟩)], [.code k51_19], [], false, none⟩, [], [], 0⟩ (fun v H _ => Res 0 (rx51 res) v H) := by
  unfold ipsix_PutF at h
  refine ev_ok tab_ok hS true 3000 ?_
  conv => whnf
  replace h := obind.elim h; obtain ⟨m, hy, h⟩ := h
  refine sumK.q rfl rfl (r78_eq hy) rfl rfl rfl ?_
  conv => whnf
  refine br.h h ?_ ?_ ?_
  · rfl
  · clear h; intro hb h; conv => whnf
    all_goals (cases h; exact Res.z rfl rfl rfl)
  clear h; intro hb h; conv => whnf
  refine br.h h ?_ ?_ ?_
  · rfl
  · clear h; intro hb h; conv => whnf
    all_goals (cases h; exact Res.z rfl rfl rfl)
  clear h; intro hb h; conv => whnf
  let t : Int := iorI .u64 1610612736 (wI .u64 ((wI .u64 ha0.Class) * 2 ^ 20))
  replace h := obind.elim h; obtain ⟨p, hy, h⟩ := h
  refine sumK.q rfl rfl (r44_eq hy) rfl rfl rfl ?_
  conv => whnf
  let t1 : Int := wI .u64 ((wI .u64 (payload.length : Int)) * 2 ^ 16)
  let t2 : Int := iorI .u64 t1 (wI .u64 ((wI .u64 ha0.Next) * 2 ^ 8))
  replace h := obind.elim h; obtain ⟨p1, hy, h⟩ := h
  refine sumK.q rfl rfl (r44_eq hy) rfl rfl rfl ?_
  conv => whnf
  replace h := oreq.elim h; obtain ⟨hb, h⟩ := h
  first | (refine req.intro hb ?_; conv => whnf) | skip
  replace h := obind.elim h; obtain ⟨p2, hy, h⟩ := h
  refine sumK.q rfl rfl (r74_eq hy) rfl rfl rfl ?_
  conv => whnf
  replace h := oreq.elim h; obtain ⟨hb, h⟩ := h
  first | (refine req.intro hb ?_; conv => whnf) | skip
  replace h := obind.elim h; obtain ⟨p3, hy, h⟩ := h
  refine sumK.q rfl rfl (r74_eq hy) rfl rfl rfl ?_
  conv => whnf
  replace h := oreq.elim h; obtain ⟨hb, h⟩ := h
  first | (refine req.intro hb ?_; conv => whnf) | skip
  replace h := oreq.elim h; obtain ⟨hb, h⟩ := h
  first | (refine req.intro hb ?_; conv => whnf) | skip
  all_goals (cases h; exact Res.z rfl rfl rfl)
theorem ok51 (addr_Put : api_Addr → Option (List UInt8)) (ipsix_Head_may : ipsix_Head → Option Bool) (octet_Put : Int → Int → Option (List UInt8)) (hS : SumsOK Try.prog (aget (sums51 addr_Put ipsix_Head_may octet_Put))) : SumOK Try.prog 51 (s51 (ipsix_PutF addr_Put ipsix_Head_may octet_Put)) := by
  refine SumOK.of_leads tab_ok (fun ar os r ha hr => ?_) ⟨Try.f51, rfl, by decide, rfl⟩
  replace hr : r51 (ipsix_PutF addr_Put ipsix_Head_may octet_Put) ar (conts os) = some r := hr
  unfold r51 at hr
  generalize hc : conts os = C at hr
  replace hr := dV.elim hr; obtain ⟨v0, l1, y0, rfl, e0, hr⟩ := hr; obtain rfl := uvipsix_Head_eq _ _ e0
  replace hr := dV.elim hr; obtain ⟨v1, l2, y1, rfl, e1, hr⟩ := hr; obtain rfl := asS_eq _ _ e1
  replace hr := dFin hr; obtain ⟨rfl, rfl, x, h, rfl⟩ := hr
  obtain rfl := kinds_nil hc
  exact ⟨_, rfl, leads51 addr_Put ipsix_Head_may octet_Put hS _ _ x h⟩
def ipsix_Put : ipsix_Head → (List UInt8) → Option ((List UInt8) × Int) := ipsix_PutF addr_Put ipsix_Head_may octet_Put
theorem lift51 : SumOK Try.prog 51 (s51 ipsix_Put) := ok51 addr_Put ipsix_Head_may octet_Put (SumsOK.of_tab ⟨lift74, lift78, lift44, trivial⟩)
end Go.Vm.Code
namespace Go.Vm.Code
open Go Go.Vm
def AddrOK (a : api_Addr) : Prop := (0 ≤ a.Hi ∧ a.Hi < 2 ^ 64) ∧ 0 ≤ a.Lo ∧ a.Lo < 2 ^ 64
def addrB (a : api_Addr) : List UInt8 := be a.Hi.toNat 8 ++ be a.Lo.toNat 8
theorem addr_Put6 {a : api_Addr} (h : AddrOK a) (h6 : a.V6 = true) : addr_Put a = some (addrB a) := by
  unfold addr_Put addr_PutF addr_Right addr_RightF
  rw [h6]
  simp only [cond_true, Option.bind_some, Bool.not_true, cond_false]
  rw [octet_Put_eq h.1.1, octet_Put_eq h.2.1]
  simp only [Option.bind_some, putS]
  rw [if_pos (by omega), if_pos (by omega), oreq_p (by simp)]; rfl
def addrG (s : List UInt8) : api_Addr := ⟨true, (valL (s.take 8) : Nat), (valL (s.drop 8) : Nat)⟩
def H6 (h : ipsix_Head) : Prop := (0 ≤ h.Class ∧ h.Class ≤ 255) ∧ (0 ≤ h.Label ∧ h.Label ≤ 1048575) ∧ (0 ≤ h.Next ∧ h.Next ≤ 255) ∧ (0 ≤ h.Hop ∧ h.Hop ≤ 255) ∧ h.Src.V6 = true ∧ h.Dst.V6 = true
instance (h : ipsix_Head) : Decidable (H6 h) := inferInstanceAs (Decidable (_ ∧ _))
theorem may6_eq (h : ipsix_Head) : ipsix_Head_may h = some (decide (H6 h)) := by
  unfold ipsix_Head_may ipsix_Head_mayF
  simp only [cond_dec]
  by_cases hh : H6 h
  · rw [decide_eq_true hh]
    obtain ⟨a, b, c, d, e, f⟩ := hh
    rw [if_neg (by omega), if_neg (by omega), if_neg (by omega), if_neg (by omega), if_neg (by omega), if_neg (by omega), if_neg (by omega), if_neg (by omega), e, f]; rfl
  · rw [decide_eq_false hh]
    unfold H6 at hh
    repeat' split
    all_goals first | rfl | skip
    cases e : h.Src.V6
    · rfl
    · rw [cond_true]
      cases f : h.Dst.V6
      · rfl
      · exact absurd ⟨by omega, by omega, by omega, by omega, e, f⟩ hh
def headB (h : ipsix_Head) (n : Nat) : List UInt8 := be (6 * 2 ^ 28 + h.Class.toNat * 2 ^ 20 + h.Label.toNat) 4 ++ be n 2 ++ be h.Next.toNat 1 ++ be h.Hop.toNat 1 ++ addrB h.Src ++ addrB h.Dst
theorem headB_len (h : ipsix_Head) (n : Nat) : (headB h n).length = 40 := by simp [headB, addrB]
def put6 (h : ipsix_Head) (p : List UInt8) : List UInt8 × Int := if ¬ H6 h then ([], 1) else if p.length > 65535 then ([], 5) else (headB h p.length ++ p, 0)
theorem put6_eq {h : ipsix_Head} {p : List UInt8} (hs : AddrOK h.Src) (hd : AddrOK h.Dst) (hp : p.length < 2 ^ 60) : ipsix_Put h p = some (put6 h p) := by
  unfold ipsix_Put ipsix_PutF put6
  rw [may6_eq, Option.bind_some]
  by_cases hh : H6 h
  · rw [decide_eq_true hh, Bool.not_true, cond_false, if_neg (by simpa using hh)]
    obtain ⟨a, b, c, d, e, f⟩ := hh
    by_cases h5 : (p.length : Int) > 65535
    · rw [cond_p h5, if_pos (by omega)]
    rw [cond_n h5, if_neg (by omega)]
    simp only []
    rw [addr_Put6 hs e, addr_Put6 hd f]
    obtain ⟨C, hC⟩ := Int.eq_ofNat_of_zero_le a.1
    obtain ⟨L, hL⟩ := Int.eq_ofNat_of_zero_le b.1
    obtain ⟨X, hX⟩ := Int.eq_ofNat_of_zero_le c.1
    obtain ⟨O, hO⟩ := Int.eq_ofNat_of_zero_le d.1
    rw [hC] at a; rw [hL] at b; rw [hX] at c; rw [hO] at d
    have e1 : iorI .u64 (iorI .u64 1610612736 (wI .u64 ((wI .u64 h.Class) * 2 ^ 20))) (wI .u64 h.Label) = ((6 * 2 ^ 28 + C * 2 ^ 20 + L : Nat) : Int) := by
      rw [hC, hL, wU64 (n := (C : Int)) (by omega) (by omega), wU64 (n := (L : Int)) (by omega) (by omega), wU64 (n := (C : Int) * 2 ^ 20) (by omega) (by omega)]
      have g1 : iorI .u64 1610612736 ((C : Int) * 2 ^ 20) = ((6 * 2 ^ 8 + C : Nat) : Int) * 2 ^ 20 := by
        have := iorU64_low 28 (a := 6) (b := (C : Int) * 2 ^ 20) (by omega) (by omega) (by omega) (by omega) (by omega)
        rw [show (6 : Int) * 2 ^ 28 = 1610612736 from rfl] at this
        rw [this]; omega
      rw [g1, iorU64_low 20 (by omega) (by omega) (by omega) (by omega) (by omega)]; omega
    have e2 : iorI .u64 (iorI .u64 (wI .u64 ((wI .u64 (p.length : Int)) * 2 ^ 16)) (wI .u64 ((wI .u64 h.Next) * 2 ^ 8))) (wI .u64 h.Hop) = ((p.length * 2 ^ 16 + X * 2 ^ 8 + O : Nat) : Int) := by
      rw [hX, hO, wU64 (n := (X : Int)) (by omega) (by omega), wU64 (n := (O : Int)) (by omega) (by omega), wU64 (n := (p.length : Int)) (by omega) (by omega), wU64 (n := (X : Int) * 2 ^ 8) (by omega) (by omega), wU64 (n := (p.length : Int) * 2 ^ 16) (by omega) (by omega)]
      have g1 : iorI .u64 ((p.length : Int) * 2 ^ 16) ((X : Int) * 2 ^ 8) = ((p.length * 2 ^ 8 + X : Nat) : Int) * 2 ^ 8 := by
        rw [iorU64_low 16 (by omega) (by omega) (by omega) (by omega) (by omega)]; omega
      rw [g1, iorU64_low 8 (by omega) (by omega) (by omega) (by omega) (by omega)]; omega
    rw [e1, e2, octet_Put_eq (by omega), octet_Put_eq (by omega)]
    simp only [Option.bind_some, putS]
    have e3 : be (p.length * 2 ^ 16 + X * 2 ^ 8 + O) 4 = be p.length 2 ++ be X 1 ++ be O 1 := by
      refine be_of (by simp) ?_
      rw [val_append, val_append, val_be, val_be, val_be]
      simp only [be_len]
      omega
    rw [if_pos (by omega), if_pos (by omega)]
    have hl : (be (6 * 2 ^ 28 + C * 2 ^ 20 + L) 4).length = 4 := be_len _ _
    simp only [Int.toNat_natCast, show (4 : Int).toNat = 4 from rfl, e3]
    rw [oreq_p (by simp), oreq_p (by simp [addrB]), oreq_p (by simp [addrB]), oreq_p (by simp [addrB]; omega)]
    simp [headB, hC, hL, hX, hO]
  · rw [decide_eq_false hh, Bool.not_false, cond_true, if_pos hh]
theorem addrG_addrB {a : api_Addr} (h : AddrOK a) (h6 : a.V6 = true) : addrG (addrB a) = a := by
  obtain ⟨v, hi, lo⟩ := a
  simp only [AddrOK] at h h6
  subst h6
  unfold addrG addrB
  have e1 : (be hi.toNat 8 ++ be lo.toNat 8).take 8 = be hi.toNat 8 := by rw [List.take_append_of_le_length (by simp), List.take_of_length_le (by simp)]
  have e2 : (be hi.toNat 8 ++ be lo.toNat 8).drop 8 = be lo.toNat 8 := by rw [List.drop_append_of_le_length (by simp), List.drop_of_length_le (by simp)]; rfl
  rw [e1, e2, val_be_lt (by have := h.1; omega), val_be_lt (by have := h.2; omega), Int.toNat_of_nonneg h.1.1, Int.toNat_of_nonneg h.2.1]
theorem addrB_addrG {s : List UInt8} (h : s.length = 16) : addrB (addrG s) = s := by
  unfold addrB addrG
  simp only [Int.toNat_natCast]
  rw [be_val' (by simp; omega), be_val' (by simp; omega), List.take_append_drop]
theorem parts6 {a b c d e f r : List UInt8} (ha : a.length = 4) (hb : b.length = 2) (hc : c.length = 1) (hd : d.length = 1) (he : e.length = 16) (hf : f.length = 16) :
    let s := a ++ b ++ c ++ d ++ e ++ f ++ r
    s.take 4 = a ∧ (s.drop 4).take 2 = b ∧ (s.drop 6).take 1 = c ∧ (s.drop 7).take 1 = d ∧ (s.drop 8).take 16 = e ∧ (s.drop 24).take 16 = f ∧ s.drop 40 = r := by
  have d4 : ∀ x : List UInt8, (a ++ x).drop 4 = x := fun x => by rw [← ha]; exact List.drop_left
  have d2 : ∀ x : List UInt8, (b ++ x).drop 2 = x := fun x => by rw [← hb]; exact List.drop_left
  have dc : ∀ x : List UInt8, (c ++ x).drop 1 = x := fun x => by rw [← hc]; exact List.drop_left
  have dd : ∀ x : List UInt8, (d ++ x).drop 1 = x := fun x => by rw [← hd]; exact List.drop_left
  have de : ∀ x : List UInt8, (e ++ x).drop 16 = x := fun x => by rw [← he]; exact List.drop_left
  have df : ∀ x : List UInt8, (f ++ x).drop 16 = x := fun x => by rw [← hf]; exact List.drop_left
  simp only [List.append_assoc]
  have e6 : (a ++ (b ++ (c ++ (d ++ (e ++ (f ++ r)))))).drop 6 = c ++ (d ++ (e ++ (f ++ r))) := by
    rw [show 6 = 4 + 2 from rfl, ← List.drop_drop, d4, d2]
  have e7 : (a ++ (b ++ (c ++ (d ++ (e ++ (f ++ r)))))).drop 7 = d ++ (e ++ (f ++ r)) := by
    rw [show 7 = 6 + 1 from rfl, ← List.drop_drop, e6, dc]
  have e8 : (a ++ (b ++ (c ++ (d ++ (e ++ (f ++ r)))))).drop 8 = e ++ (f ++ r) := by
    rw [show 8 = 7 + 1 from rfl, ← List.drop_drop, e7, dd]
  have e24 : (a ++ (b ++ (c ++ (d ++ (e ++ (f ++ r)))))).drop 24 = f ++ r := by
    rw [show 24 = 8 + 16 from rfl, ← List.drop_drop, e8, de]
  have e40 : (a ++ (b ++ (c ++ (d ++ (e ++ (f ++ r)))))).drop 40 = r := by
    rw [show 40 = 24 + 16 from rfl, ← List.drop_drop, e24, df]
  refine ⟨by rw [← ha]; exact List.take_left, ?_, ?_, ?_, ?_, ?_, e40⟩
  · rw [d4, ← hb]; exact List.take_left
  · rw [e6, ← hc]; exact List.take_left
  · rw [e7, ← hd]; exact List.take_left
  · rw [e8, ← he]; exact List.take_left
  · rw [e24, ← hf]; exact List.take_left
end Go.Vm.Code
namespace Go.Vm.Code
open Go Go.Vm Go.Proofs
set_option maxRecDepth 100000
set_option maxHeartbeats 4000000
set_option linter.unusedVariables false
def tcp_List_s1 (text : List UInt8) (i : Int) (c : List tcp_Opt) : Option (Sum (Int × (List tcp_Opt)) ((List tcp_Opt) × Int)) :=
  cond (decide (i < (text.length : Int)))
    (
    oreq (decide (0 ≤ i)) <|
    (text[i.toNat]?).bind fun (b : UInt8) =>
    cond ((b.toNat : Int) == 0)
      (
      some (.inr ((c, 0))))
      (
      cond ((b.toNat : Int) == 1)
        (
        some (.inl (wI .i64 (i + 1), c)))
        (
        let t := decide ((wI .i64 (i + 1)) < (text.length : Int))
        cond (t)
          (
          oreq (decide (0 ≤ (wI .i64 (i + 1)))) <|
          (text[(wI .i64 (i + 1)).toNat]?).bind fun (b1 : UInt8) =>
          cond (decide ((wI .i64 (b1.toNat : Int)) < 2))
            (
            some (.inr (([], 3))))
            (
            let t1 := decide ((wI .i64 (b1.toNat : Int)) > (wI .i64 ((text.length : Int) - i)))
            cond (t1)
              (
              some (.inr (([], 3))))
              (
              oreq (decide (0 ≤ i)) <|
              (text[i.toNat]?).bind fun (b2 : UInt8) =>
              oreq (decide ((0 : Int) ≤ (wI .i64 (i + (wI .i64 (b1.toNat : Int)))) ∧ (wI .i64 (i + (wI .i64 (b1.toNat : Int)))) ≤ (text.length : Int) ∧ (0 : Int) ≤ (wI .i64 (i + 2)) ∧ (wI .i64 (i + 2)) ≤ ((wI .i64 (i + (wI .i64 (b1.toNat : Int)))).toNat : Int))) <|
              let t2 := (text.drop (wI .i64 (i + 2)).toNat).take ((wI .i64 (i + (wI .i64 (b1.toNat : Int)))).toNat - (wI .i64 (i + 2)).toNat)
              cond (decide ((wI .i64 (i + 2)) < 0))
                (
                some (.inr (([], 3))))
                (
                oreq (decide ((c.length + 1) * 24 ≤ 2 ^ 47)) <|
                let row := c ++ [tcp_Opt.mk (wI .i64 (b2.toNat : Int)) t2]
                some (.inl (wI .i64 (i + (wI .i64 (b1.toNat : Int))), row))))))
          (
          some (.inr (([], 3)))))))
    (
    some (.inr ((c, 0))))
def tcp_ListF (text : List UInt8) : Option ((List tcp_Opt) × Int) :=
  iter (fun st => tcp_List_s1 text st.1 st.2) FUEL (0, [])
def rx91 (x : (List tcp_Opt) × Int) : SRes := ⟨.tuple ⟨[.slice (some ⟨0, 0, none⟩) x.1.length 2, .int .i64 x.2]⟩, [(vT ctcp_Opt x.1)], []⟩
def r91 (g : (List UInt8) → Option ((List tcp_Opt) × Int)) : Dec := dV asS fun (y0 : List UInt8) => dEnd (ofG (g y0) rx91)
theorem r91_c {g : (List UInt8) → Option ((List tcp_Opt) × Int)} {y0 : List UInt8} {x : (List tcp_Opt) × Int} (hx : g y0 = some x) : r91 g [.string ⟨⟨y0⟩⟩] [] = some (rx91 x) := (dV_eq (asS_c)).trans (ofG_eq hx)
def s91 (g : (List UInt8) → Option ((List tcp_Opt) × Int)) : Summ := ⟨[.v], r91 g⟩
theorem r91_eq {g : (List UInt8) → Option ((List tcp_Opt) × Int)} {y0 : List UInt8} {x : (List tcp_Opt) × Int} (hx : g y0 = some x) : (s91 g).run [.string ⟨⟨y0⟩⟩] [] = some (rx91 x) := r91_c hx
abbrev sums91 : List (Nat × Summ) := []
def head91_1 (text : List UInt8) (i : Int) (c : List tcp_Opt) : VM :=
  ⟨⟨114, 62, [(0, .func (.yield 5) #[] #[]), (1, .pointer (some ⟨3, 0, none⟩)), (3, .int .i64 i)], [.code k114_35, .inLoop k114_35, .inBlock 0], [], false, none⟩, [⟨91, 18, [(2, .pointer (some ⟨0, 0, none⟩)), (3, .pointer (some ⟨1, 0, none⟩)), (4, .pointer (some ⟨2, 0, none⟩))], [.inRangeFunc 5, .inBlock 0, .code k91_16], [4], false, none⟩], [(0, .cells [.slice none 0 0]), (1, .cells [.int .i64 0]), (2, .cells [.slice (some ⟨6, 0, none⟩) c.length 2]), (3, .cells [.string ⟨⟨text⟩⟩]), (4, .marks), (5, .loop ⟨.ready, none, 91, 18, [(2, .pointer (some ⟨0, 0, none⟩)), (3, .pointer (some ⟨1, 0, none⟩)), (4, .pointer (some ⟨2, 0, none⟩))], [8], k91_3, k91_11, 4⟩), (6, .row true (vT ctcp_Opt c))], 7⟩
theorem loop91_1 (hS : SumsOK Try.prog (aget (sums91))) (text : List UInt8) (res : (List tcp_Opt) × Int) : ∀ fuel (st : Int × (List tcp_Opt)) (o : (List tcp_Opt) × Int), iter (fun st => tcp_List_s1 text st.1 st.2) fuel st = some o → (o = res) →
    Leads Try.prog 91 0 (head91_1 text st.1 st.2) (fun v H t => ∃ v' H' t', NilW v H t v' H' t' ∧ Res 0 (rx91 res) v' H') := by
  intro fuel st o h hc
  refine iter_leads (head := fun st => head91_1 text st.1 st.2) (C := fun o => (o = res)) ?_ fuel st o h hc
  clear h hc o st fuel
  intro st o h hc
  obtain ⟨i, c⟩ := st
  replace h : tcp_List_s1 text i c = some o := h
  show Leads Try.prog 91 0 (head91_1 text i c) (fun v H t => ∃ v' H' t', NilW v H t v' H' t' ∧ Res 0 (rx91 res) v' H')
  unfold tcp_List_s1 at h
  refine ev_ok tab_ok hS true 3000 ?_
  conv => whnf
  refine br.h2 h ?_ ?_ ?_
  · rfl
  · clear h; intro hb h; conv => whnf
    all_goals (cases h; cases hc)
    all_goals exact ⟨_, _, _, (.refl _ _ _), Res.of [6] rfl (nw_s (rn_T ctcp_Opt_flat) (hs_row rfl) nw_0) (by decide) (js_l (by decide) js_0) wr_0⟩
  clear h; intro hb h; conv => whnf
  replace h := oreq.elim h; obtain ⟨hb, h⟩ := h
  first | (refine req.intro hb ?_; conv => whnf) | skip
  replace h := obind.elim h; obtain ⟨b, hy, h⟩ := h
  refine rdS.intro hy ?_
  conv => whnf
  refine br.h h ?_ ?_ ?_
  · rfl
  · clear h; intro hb h; conv => whnf
    all_goals (cases h; cases hc)
    all_goals exact ⟨_, _, _, (.refl _ _ _), Res.of [6] rfl (nw_s (rn_T ctcp_Opt_flat) (hs_row rfl) nw_0) (by decide) (js_l (by decide) js_0) wr_0⟩
  clear h; intro hb h; conv => whnf
  refine br.h h ?_ ?_ ?_
  · rfl
  · clear h; intro hb h; conv => whnf
    cases h; simp only [Sum.elim_inl, head91_1] at hc
    refine Leads.re hc [(0, 0), (1, 1), (2, 2), (3, 3), (4, 4), (5, 5), (6, 6)] rfl ?_ ?_ (hu := by repeat' first | exact trivial | refine ⟨⟨rfl, rfl, rfl, rfl, rfl, ?_, rfl, rfl⟩, ?_⟩ | refine ⟨⟨_, rfl, rfl⟩, ?_⟩) <;> (repeat' first | exact trivial | refine ⟨⟨_, rfl, rfl⟩, ?_⟩ | refine ⟨⟨_, _, rfl, rfl, .rowF (vI_flat _ _) id⟩, ?_⟩ | refine ⟨⟨_, _, rfl, rfl, .rowF (vS_flat _) id⟩, ?_⟩ | refine ⟨⟨_, _, rfl, rfl, .rowF (vB_flat _) id⟩, ?_⟩ | refine ⟨⟨_, _, rfl, rfl, .rowF (vT_flat (by first | exact capi_Addr_flat | exact capi_Tuple_flat | exact cquic_Head_flat | exact capi_Packet_flat | exact cpacket_outer_flat | exact cipfour_Head_flat | exact coctet_Reader_flat | exact cipsix_Head_flat | exact ctcp_Head_flat | exact ctcp_Opt_flat | exact cudp_Head_flat) _) id⟩, ?_⟩ | refine ⟨⟨_, _, rfl, rfl, .tyF (vI_flat _ _)⟩, ?_⟩ | refine ⟨⟨_, _, rfl, rfl, .ty rfl⟩, ?_⟩ | refine ⟨⟨_, _, rfl, rfl, .cells rfl⟩, ?_⟩ | refine ⟨⟨_, _, rfl, rfl, .row rfl id⟩, ?_⟩ | refine ⟨⟨_, _, rfl, rfl, .cr rfl⟩, ?_⟩ | refine ⟨⟨_, _, rfl, rfl, .rc rfl⟩, ?_⟩ | refine ⟨⟨_, _, rfl, rfl, .marks⟩, ?_⟩ | refine ⟨⟨_, _, rfl, rfl, .siter _ _⟩, ?_⟩ | refine ⟨⟨_, _, rfl, rfl, .loop rfl rfl rfl rfl (by repeat' first | exact trivial | refine ⟨rfl, ?_⟩) rfl rfl rfl rfl⟩, ?_⟩)
  clear h; intro hb h; conv => whnf
  let t : Bool := decide ((wI .i64 (i + 1)) < (text.length : Int))
  refine br.h2 h ?_ ?_ ?_
  · rfl
  · clear h; intro hb h; conv => whnf
    all_goals (cases h; cases hc)
    all_goals exact ⟨_, _, _, (.val (.tup (.cons (.nil _ _) (.cons (.same _) .nil))) (.refl _ _ _)), Res.of [8] rfl (nw_s (rn_T ctcp_Opt_flat) (hs_row rfl) nw_0) (by decide) (js_l (by decide) js_0) wr_0⟩
  clear h; intro hb h; conv => whnf
  replace h := oreq.elim h; obtain ⟨hb, h⟩ := h
  first | (refine req.intro hb ?_; conv => whnf) | skip
  replace h := obind.elim h; obtain ⟨b1, hy, h⟩ := h
  refine rdS.intro hy ?_
  conv => whnf
  refine br.h h ?_ ?_ ?_
  · rfl
  · clear h; intro hb h; conv => whnf
    all_goals (cases h; cases hc)
    all_goals exact ⟨_, _, _, (.val (.tup (.cons (.nil _ _) (.cons (.same _) .nil))) (.refl _ _ _)), Res.of [8] rfl (nw_s (rn_T ctcp_Opt_flat) (hs_row rfl) nw_0) (by decide) (js_l (by decide) js_0) wr_0⟩
  clear h; intro hb h; conv => whnf
  let t1 : Bool := decide ((wI .i64 (b1.toNat : Int)) > (wI .i64 ((text.length : Int) - i)))
  refine br.h h ?_ ?_ ?_
  · rfl
  · clear h; intro hb h; conv => whnf
    all_goals (cases h; cases hc)
    all_goals exact ⟨_, _, _, (.val (.tup (.cons (.nil _ _) (.cons (.same _) .nil))) (.refl _ _ _)), Res.of [8] rfl (nw_s (rn_T ctcp_Opt_flat) (hs_row rfl) nw_0) (by decide) (js_l (by decide) js_0) wr_0⟩
  clear h; intro hb h; conv => whnf
  replace h := oreq.elim h; obtain ⟨hb, h⟩ := h
  first | (refine req.intro hb ?_; conv => whnf) | skip
  replace h := obind.elim h; obtain ⟨b2, hy, h⟩ := h
  refine rdS.intro hy ?_
  conv => whnf
  replace h := oreq.elim h; obtain ⟨hb, h⟩ := h
  first | (refine req.intro hb ?_; conv => whnf) | skip
  let t2 : List UInt8 := (text.drop (wI .i64 (i + 2)).toNat).take ((wI .i64 (i + (wI .i64 (b1.toNat : Int)))).toNat - (wI .i64 (i + 2)).toNat)
  refine br.h h ?_ ?_ ?_
  · rfl
  · clear h; intro hb h; conv => whnf
    all_goals (cases h; cases hc)
    all_goals exact ⟨_, _, _, (.val (.tup (.cons (.nil _ _) (.cons (.same _) .nil))) (.refl _ _ _)), Res.of [24] rfl (nw_s (rn_T ctcp_Opt_flat) (hs_row rfl) nw_0) (by decide) (js_l (by decide) js_0) wr_0⟩
  clear h; intro hb h; conv => whnf
  replace h := oreq.elim h; obtain ⟨hb, h⟩ := h
  refine req.intro (ap_req (of_decide_eq_true hb) (by first | rfl | omega | (simp; done) | (simp; omega) | (simp at *; omega)) rfl (by first | rfl | omega | (simp; done) | (simp; omega) | (simp at *; omega)) (by first | rfl | exact vI_one _ _ | exact vS_one _ | exact vB_one _ | exact vT_one (by first | exact capi_Addr_one | exact capi_Tuple_one | exact cquic_Head_one | exact capi_Packet_one | exact cpacket_outer_one | exact cipfour_Head_one | exact coctet_Reader_one | exact cipsix_Head_one | exact ctcp_Head_one | exact ctcp_Opt_one | exact cudp_Head_one) _ | (rw [ofBytes_vI]; exact vI_one _ _) | simp [vI_one, vS_one, vB_one, vI_drop, vI_take, vS_drop, vS_take]) rfl) ?_
  conv => whnf
  let row : List tcp_Opt := c ++ [tcp_Opt.mk (wI .i64 (b2.toNat : Int)) t2]
  refine pk_apT ctcp_Opt_len (xs := c) (ys := [tcp_Opt.mk (wI .i64 (b2.toNat : Int)) t2]) rfl (by first | rfl | omega) (by first | (simp; done) | (simp; omega)) (by first | (simp; done) | (simp; omega)) ?_
  conv => whnf
  cases h; simp only [Sum.elim_inl, head91_1] at hc
  refine Leads.re hc [(0, 0), (1, 1), (2, 2), (3, 3), (4, 4), (5, 5), (6, 25)] rfl ?_ ?_ (hu := by repeat' first | exact trivial | refine ⟨⟨rfl, rfl, rfl, rfl, rfl, ?_, rfl, rfl⟩, ?_⟩ | refine ⟨⟨_, rfl, rfl⟩, ?_⟩) <;> (repeat' first | exact trivial | refine ⟨⟨_, rfl, rfl⟩, ?_⟩ | refine ⟨⟨_, _, rfl, rfl, .rowF (vI_flat _ _) id⟩, ?_⟩ | refine ⟨⟨_, _, rfl, rfl, .rowF (vS_flat _) id⟩, ?_⟩ | refine ⟨⟨_, _, rfl, rfl, .rowF (vB_flat _) id⟩, ?_⟩ | refine ⟨⟨_, _, rfl, rfl, .rowF (vT_flat (by first | exact capi_Addr_flat | exact capi_Tuple_flat | exact cquic_Head_flat | exact capi_Packet_flat | exact cpacket_outer_flat | exact cipfour_Head_flat | exact coctet_Reader_flat | exact cipsix_Head_flat | exact ctcp_Head_flat | exact ctcp_Opt_flat | exact cudp_Head_flat) _) id⟩, ?_⟩ | refine ⟨⟨_, _, rfl, rfl, .tyF (vI_flat _ _)⟩, ?_⟩ | refine ⟨⟨_, _, rfl, rfl, .ty rfl⟩, ?_⟩ | refine ⟨⟨_, _, rfl, rfl, .cells rfl⟩, ?_⟩ | refine ⟨⟨_, _, rfl, rfl, .row rfl id⟩, ?_⟩ | refine ⟨⟨_, _, rfl, rfl, .cr rfl⟩, ?_⟩ | refine ⟨⟨_, _, rfl, rfl, .rc rfl⟩, ?_⟩ | refine ⟨⟨_, _, rfl, rfl, .marks⟩, ?_⟩ | refine ⟨⟨_, _, rfl, rfl, .siter _ _⟩, ?_⟩ | refine ⟨⟨_, _, rfl, rfl, .loop rfl rfl rfl rfl (by repeat' first | exact trivial | refine ⟨rfl, ?_⟩) rfl rfl rfl rfl⟩, ?_⟩)
theorem leads91 (hS : SumsOK Try.prog (aget (sums91))) (text : List UInt8) (res : (List tcp_Opt) × Int) (h : tcp_ListF text = some res) :
    Leads Try.prog 91 0 ⟨⟨91, 18, [(0, .string ⟨⟨text⟩⟩)], [.code k91_19], [], false, none⟩, [], [], 0⟩ (fun v H _ => Res 0 (rx91 res) v H) := by
  refine Leads.nilW (R := fun v' H' => Res 0 (rx91 res) v' H') ?_
  unfold tcp_ListF at h
  refine ev_ok tab_ok hS true 3000 ?_
  conv => whnf
  have hl := loop91_1 hS _ res _ _ _ h rfl; simp only [head91_1] at hl
  refine Leads.nilC 2 0 2 ?_
  refine Leads.re hl [(0, 0), (1, 1), (2, 2), (3, 3), (4, 4), (5, 5), (6, 6)] rfl ?_ ?_ (hu := by repeat' first | exact trivial | refine ⟨⟨rfl, rfl, rfl, rfl, rfl, ?_, rfl, rfl⟩, ?_⟩ | refine ⟨⟨_, rfl, rfl⟩, ?_⟩) <;> (repeat' first | exact trivial | refine ⟨⟨_, rfl, rfl⟩, ?_⟩ | refine ⟨⟨_, _, rfl, rfl, .rowF (vI_flat _ _) id⟩, ?_⟩ | refine ⟨⟨_, _, rfl, rfl, .rowF (vS_flat _) id⟩, ?_⟩ | refine ⟨⟨_, _, rfl, rfl, .rowF (vB_flat _) id⟩, ?_⟩ | refine ⟨⟨_, _, rfl, rfl, .rowF (vT_flat (by first | exact capi_Addr_flat | exact capi_Tuple_flat | exact cquic_Head_flat | exact capi_Packet_flat | exact cpacket_outer_flat | exact cipfour_Head_flat | exact coctet_Reader_flat | exact cipsix_Head_flat | exact ctcp_Head_flat | exact ctcp_Opt_flat | exact cudp_Head_flat) _) id⟩, ?_⟩ | refine ⟨⟨_, _, rfl, rfl, .tyF (vI_flat _ _)⟩, ?_⟩ | refine ⟨⟨_, _, rfl, rfl, .ty rfl⟩, ?_⟩ | refine ⟨⟨_, _, rfl, rfl, .cells rfl⟩, ?_⟩ | refine ⟨⟨_, _, rfl, rfl, .row rfl id⟩, ?_⟩ | refine ⟨⟨_, _, rfl, rfl, .cr rfl⟩, ?_⟩ | refine ⟨⟨_, _, rfl, rfl, .rc rfl⟩, ?_⟩ | refine ⟨⟨_, _, rfl, rfl, .marks⟩, ?_⟩ | refine ⟨⟨_, _, rfl, rfl, .siter _ _⟩, ?_⟩ | refine ⟨⟨_, _, rfl, rfl, .loop rfl rfl rfl rfl (by repeat' first | exact trivial | refine ⟨rfl, ?_⟩) rfl rfl rfl rfl⟩, ?_⟩)
theorem ok91 (hS : SumsOK Try.prog (aget (sums91))) : SumOK Try.prog 91 (s91 (tcp_ListF)) := by
  refine SumOK.of_leads tab_ok (fun ar os r ha hr => ?_) ⟨Try.f91, rfl, by decide, rfl⟩
  replace hr : r91 (tcp_ListF) ar (conts os) = some r := hr
  unfold r91 at hr
  generalize hc : conts os = C at hr
  replace hr := dV.elim hr; obtain ⟨v0, l1, y0, rfl, e0, hr⟩ := hr; obtain rfl := asS_eq _ _ e0
  replace hr := dFin hr; obtain ⟨rfl, rfl, x, h, rfl⟩ := hr
  obtain rfl := kinds_nil hc
  exact ⟨_, rfl, leads91 hS _ x h⟩
def tcp_List : (List UInt8) → Option ((List tcp_Opt) × Int) := tcp_ListF
theorem lift91 : SumOK Try.prog 91 (s91 tcp_List) := ok91 (SumsOK.of_tab trivial)
end Go.Vm.Code
namespace Go.Vm.Code
open Go Go.Vm
structure Opt7 where
  Kind : Int
  Data : List UInt8
  At : Int
def optF (s : List UInt8) : Nat → Nat → List Opt7 → List Opt7 × Int
  | 0, _, out => (out, 0)
  | n + 1, i, out => match s[i]? with
    | none => (out, 0)
    | some b => if b = 0 then (out, 0) else if b = 1 then optF s n (i + 1) out else match s[i + 1]? with
      | none => ([], 3)
      | some k => if k.toNat < 2 then ([], 3) else if s.length - i < k.toNat then ([], 3) else
          optF s (n + 1 - k.toNat) (i + k.toNat) (out ++ [⟨(b.toNat : Int), (s.drop (i + 2)).take (k.toNat - 2), ((i + 2 : Nat) : Int)⟩])
termination_by n => n
decreasing_by all_goals omega
def opt7 (s : List UInt8) : List Opt7 × Int := optF s s.length 0 []
def strip (o : Opt7) : tcp_Opt := ⟨o.Kind, o.Data⟩
theorem optF_strip (s : List UInt8) : ∀ (n i : Nat) (o1 o2 : List Opt7), o1.map strip = o2.map strip → (optF s n i o1).1.map strip = (optF s n i o2).1.map strip ∧ (optF s n i o1).2 = (optF s n i o2).2 := by
  intro n
  induction n using Nat.strongRecOn with
  | ind n ih =>
    intro i o1 o2 h
    cases n with
    | zero => rw [optF, optF]; exact ⟨h, rfl⟩
    | succ n =>
      rw [optF, optF]
      split
      · exact ⟨h, rfl⟩
      split
      · exact ⟨h, rfl⟩
      split
      · exact ih n (by omega) _ _ _ h
      split
      · exact ⟨rfl, rfl⟩
      split
      · exact ⟨rfl, rfl⟩
      split
      · exact ⟨rfl, rfl⟩
      exact ih _ (by omega) _ _ _ (by simp [h, strip])
def unstrip (o : tcp_Opt) : Opt7 := ⟨o.Kind, o.Data, 0⟩
theorem strip_un (c : List tcp_Opt) : (c.map unstrip).map strip = c := by
  rw [List.map_map, show strip ∘ unstrip = id from rfl, List.map_id]
theorem t7_eq {s : List UInt8} (hs : s.length < 2 ^ 20) : tcp_List s = some ((opt7 s).1.map strip, (opt7 s).2) := by
  unfold tcp_List tcp_ListF opt7
  have key := iter_eq (step := fun (st : Int × List tcp_Opt) => tcp_List_s1 s st.1 st.2) (fun st => ((optF s (s.length - st.1.toNat) st.1.toNat (st.2.map unstrip)).1.map strip, (optF s (s.length - st.1.toNat) st.1.toNat (st.2.map unstrip)).2)) (fun st => 0 ≤ st.1 ∧ st.1 ≤ s.length ∧ (st.2.length : Int) ≤ st.1) (fun st => s.length - st.1.toNat) ?_ FUEL (0, []) ⟨by simp, by simp, by simp⟩ (by rw [FUEL_eq]; simp only; omega)
  · rw [key]; rfl
  rintro ⟨p, out⟩ ⟨g1, g2, g3⟩
  simp only at g1 g2 g3 ⊢
  obtain ⟨i, rfl⟩ := Int.eq_ofNat_of_zero_le g1
  simp only [Int.toNat_natCast]
  unfold tcp_List_s1
  by_cases hi : i < s.length
  · obtain ⟨n, hn⟩ : ∃ n, s.length - i = n + 1 := ⟨s.length - i - 1, by omega⟩
    have e : s[i]? = some s[i] := List.getElem?_eq_getElem hi
    rw [cond_p (by omega), oreq_p (by omega), Int.toNat_natCast, e, Option.bind_some, hn, optF, e]
    by_cases h0 : s[i] = 0
    · refine .inl ?_
      rw [show ((s[i].toNat : Int) == 0) = true by rw [h0]; rfl, cond_true]
      simp only [h0, if_true, strip_un]
    rw [show ((s[i].toNat : Int) == 0) = false by simp; intro hx; exact h0 (UInt8.toNat_inj.1 (by simpa using hx)), cond_false]
    simp only [if_neg h0]
    by_cases h1 : s[i] = 1
    · refine .inr ⟨(((i + 1 : Nat) : Int), out), ?_, ⟨by simp only; omega, by simp only; omega, by simp only; omega⟩, by simp only; omega, ?_⟩
      · rw [show ((s[i].toNat : Int) == 1) = true by rw [h1]; rfl, cond_true, wI64 (by omega) (by omega)]; rfl
      · simp only [Int.toNat_natCast, if_pos h1]
        rw [show s.length - (i + 1) = n by omega]
    rw [show ((s[i].toNat : Int) == 1) = false by simp; intro hx; exact h1 (UInt8.toNat_inj.1 (by simp; omega)), cond_false]
    simp only [if_neg h1]
    rw [wI64 (n := (i : Int) + 1) (by omega) (by omega)]
    by_cases h2 : s.length ≤ i + 1
    · refine .inl ?_
      rw [cond_n (by omega), List.getElem?_eq_none (by omega)]; rfl
    have hi1 : i + 1 < s.length := by omega
    have e1 : s[i + 1]? = some s[i + 1] := List.getElem?_eq_getElem hi1
    have b1 := s[i + 1].toNat_lt
    rw [cond_p (by omega), show ((i : Int) + 1).toNat = i + 1 by omega, e1, oreq_p (by omega), Option.bind_some]
    simp only [Option.bind_some]
    rw [wI64 (n := (s[i + 1].toNat : Int)) (by omega) (by omega)]
    by_cases h3 : s[i + 1].toNat < 2
    · refine .inl ?_
      rw [cond_p (by omega), if_pos h3]; rfl
    rw [cond_n (by omega), if_neg h3, wI64 (n := (s.length : Int) - i) (by omega) (by omega)]
    by_cases h4 : s.length - i < s[i + 1].toNat
    · refine .inl ?_
      rw [cond_p (by omega), if_pos h4]; rfl
    refine .inr ⟨(((i + s[i + 1].toNat : Nat) : Int), out ++ [⟨(s[i].toNat : Int), (s.drop (i + 2)).take (s[i + 1].toNat - 2)⟩]), ?_, ⟨by simp only; omega, by simp only; omega, by simp; omega⟩, by simp only; omega, ?_⟩
    · have b0 := s[i].toNat_lt
      rw [cond_n (by omega), oreq_p (by omega), wI64 (n := (i : Int) + s[i + 1].toNat) (by omega) (by omega), wI64 (n := (i : Int) + 2) (by omega) (by omega), wI64 (n := (s[i].toNat : Int)) (by omega) (by omega), oreq_p (by omega), cond_n (by omega), oreq_p (by omega), show ((i : Int) + s[i + 1].toNat).toNat - ((i : Int) + 2).toNat = s[i + 1].toNat - 2 by omega, show ((i : Int) + 2).toNat = i + 2 by omega]; rfl
    · rw [if_neg h4]
      simp only [Int.toNat_natCast]
      rw [show s.length - (i + s[i + 1].toNat) = n + 1 - s[i + 1].toNat by omega]
      have := optF_strip s (n + 1 - s[i + 1].toNat) (i + s[i + 1].toNat) ((out ++ [(⟨(s[i].toNat : Int), (s.drop (i + 2)).take (s[i + 1].toNat - 2)⟩ : tcp_Opt)]).map unstrip) (out.map unstrip ++ [(⟨(s[i].toNat : Int), (s.drop (i + 2)).take (s[i + 1].toNat - 2), ((i + 2 : Nat) : Int)⟩ : Opt7)]) (by simp [strip, unstrip])
      rw [this.1, this.2]
  · refine .inl ?_
    rw [cond_n (by omega), show s.length - i = 0 by omega, optF, strip_un]
theorem setS_mid {A B : List UInt8} {p : Nat} {c : Int} (hA : A.length = p) : setS (A ++ (be 0 2 ++ B)) (p : Int) 2 c = A ++ (be c.toNat 2 ++ B) := by
  subst hA
  unfold setS
  rw [if_pos (by simp only [List.length_append, be_len]; omega), Int.toNat_natCast, List.take_left, show ((A.length : Int) + 2).toNat = A.length + 2 by omega, ← List.drop_drop, List.drop_left, show (be 0 2 ++ B).drop 2 = B from rfl, List.append_assoc]; rfl
theorem wsum_mid {A B : List UInt8} {c : Nat} (hA : A.length % 2 = 0) (hc : c < 65536) : wsum (A ++ (be c 2 ++ B)) = wsum (A ++ (be 0 2 ++ B)) + c := by
  rw [wsum_append _ _ hA, wsum_append _ _ hA, wsum_append (be c 2) B (by simp), wsum_append (be 0 2) B (by simp), wsum_be2 hc, wsum_be2 (by omega)]; omega
def ckN (W : Nat) : Nat := 65535 - norm W
theorem ckN_ok (W : Nat) : ckN W ≤ 65535 ∧ (W + ckN W) % 65535 = 0 ∧ W + ckN W ≠ 0 := by
  have n1 := norm_le W
  have n2 := norm_mod W
  have n3 := norm_zero W
  unfold ckN; omega
theorem be_two (a b : Nat) (hb : b < 65536) : be (a * 65536 + b) 4 = be a 2 ++ be b 2 := by
  rw [be_split _ 2 2, show (256 : Nat) ^ 2 = 65536 from rfl, show (a * 65536 + b) / 65536 = a by omega, ← be_mod (a * 65536 + b) 2, show (256 : Nat) ^ 2 = 65536 from rfl, show (a * 65536 + b) % 65536 = b by omega]
theorem be_four (a b : Nat) (hb : b < 4294967296) : be (a * 4294967296 + b) 8 = be a 4 ++ be b 4 := by
  rw [be_split _ 4 4, show (256 : Nat) ^ 4 = 4294967296 from rfl, show (a * 4294967296 + b) / 4294967296 = a by omega, ← be_mod (a * 4294967296 + b) 4, show (256 : Nat) ^ 4 = 4294967296 from rfl, show (a * 4294967296 + b) % 4294967296 = b by omega]
theorem be_one (a b : Nat) (hb : b < 256) : be (a * 256 + b) 2 = be a 1 ++ be b 1 := by
  rw [be_split _ 1 1, show (256 : Nat) ^ 1 = 256 from rfl, show (a * 256 + b) / 256 = a by omega, ← be_mod (a * 256 + b) 1, show (256 : Nat) ^ 1 = 256 from rfl, show (a * 256 + b) % 256 = b by omega]
end Go.Vm.Code
namespace Go.Vm.Code
open Go Go.Vm Go.Proofs
set_option maxRecDepth 100000
set_option maxHeartbeats 4000000
set_option linter.unusedVariables false
def tcp_within_s1 (most : Int) (l : List Int) (t9 : Int) : Option (Sum Int Bool) :=
  cond (decide (t9 < (l.length : Int)))
    (
    oreq (decide ((0 : Int) ≤ t9 ∧ t9 < (l.length : Int))) <|
    (l[t9.toNat]?).bind fun (e : Int) =>
    cond (decide (e < 0))
      (
      some (.inr (false)))
      (
      cond (decide (e > most))
        (
        some (.inr (false)))
        (
        some (.inl (wI .i64 (t9 + 1))))))
    (
    some (.inr (true)))
def tcp_withinF (most : Int) (l : List Int) : Option Bool :=
  iter (fun st => tcp_within_s1 most l st) FUEL 0
def rx76 (x : Bool) : SRes := ⟨.bool x, [], [none]⟩
def r76 (g : Int → (List Int) → Option Bool) : Dec := dV (asI .i64) fun (y0 : Int) => dSl 0 1 (unL (asI .i64)) fun (y1 : List Int) => dEnd (ofG (g y0 y1) rx76)
theorem r76_c {g : Int → (List Int) → Option Bool} {y0 : Int} {y1 : List Int} {x : Bool} (hx : g y0 y1 = some x) : r76 g [.int .i64 y0, .slice (some ⟨0, 0, none⟩) y1.length 1] [some (vI .i64 y1)] = some (rx76 x) := (dV_eq (asI_c _)).trans ((dSl_eq (unI_vI _ _)).trans (ofG_eq hx))
def s76 (g : Int → (List Int) → Option Bool) : Summ := ⟨[.v, .sl 1], r76 g⟩
theorem r76_eq {g : Int → (List Int) → Option Bool} {y0 : Int} {y1 : List Int} {x : Bool} (hx : g y0 y1 = some x) : (s76 g).run [.int .i64 y0, .slice (some ⟨0, 0, none⟩) y1.length 1] [some (vI .i64 y1)] = some (rx76 x) := r76_c hx
abbrev sums76 : List (Nat × Summ) := []
def head76_1 (most : Int) (l : List Int) (t9 : Int) : VM :=
  ⟨⟨76, 21, [(0, .int .i64 most), (7, .slice (some ⟨0, 0, none⟩) l.length 1), (8, .int .i64 (l.length : Int)), (9, .int .i64 t9)], [.code k76_15, .inLoop k76_15, .inBlock 0, .code k76_20], [], false, none⟩, [], [(0, .row false (vI .i64 l))], 1⟩
theorem loop76_1 (hS : SumsOK Try.prog (aget (sums76))) (most : Int) (l : List Int) (res : Bool) : ∀ fuel (st : Int) (o : Bool), iter (fun st => tcp_within_s1 most l st) fuel st = some o → (o = res) →
    Leads Try.prog 76 1 (head76_1 most l st) (fun v H _ => Res 1 (rx76 res) v H) := by
  intro fuel st o h hc
  refine iter_leads (head := fun st => head76_1 most l st) (C := fun o => (o = res)) ?_ fuel st o h hc
  clear h hc o st fuel
  intro t9 o h hc
  replace h : tcp_within_s1 most l t9 = some o := h
  show Leads Try.prog 76 1 (head76_1 most l t9) (fun v H _ => Res 1 (rx76 res) v H)
  unfold tcp_within_s1 at h
  refine ev_ok tab_ok hS true 3000 ?_
  conv => whnf
  refine br.h2 h ?_ ?_ ?_
  · rfl
  · clear h; intro hb h; conv => whnf
    all_goals (cases h; cases hc)
    all_goals exact Res.of [] rfl nw_0 (by decide) js_0 (wr_n wr_0)
  clear h; intro hb h; conv => whnf
  replace h := oreq.elim h; obtain ⟨hb, h⟩ := h
  first | (refine req.intro hb ?_; conv => whnf) | skip
  replace h := obind.elim h; obtain ⟨e, hy, h⟩ := h
  refine rd.I hy (by first | rfl | (rw [Nat.zero_add, Nat.mul_one]; try rfl; done) | omega) ?_
  conv => whnf
  refine br.h h ?_ ?_ ?_
  · rfl
  · clear h; intro hb h; conv => whnf
    all_goals (cases h; cases hc)
    all_goals exact Res.of [] rfl nw_0 (by decide) js_0 (wr_n wr_0)
  clear h; intro hb h; conv => whnf
  refine br.h h ?_ ?_ ?_
  · rfl
  · clear h; intro hb h; conv => whnf
    all_goals (cases h; cases hc)
    all_goals exact Res.of [] rfl nw_0 (by decide) js_0 (wr_n wr_0)
  clear h; intro hb h; conv => whnf
  cases h; simp only [Sum.elim_inl, head76_1] at hc
  refine Leads.re hc [(0, 0)] rfl ?_ ?_ <;> (repeat' first | exact trivial | refine ⟨⟨_, rfl, rfl⟩, ?_⟩ | refine ⟨⟨_, _, rfl, rfl, .rowF (vI_flat _ _) id⟩, ?_⟩ | refine ⟨⟨_, _, rfl, rfl, .rowF (vS_flat _) id⟩, ?_⟩ | refine ⟨⟨_, _, rfl, rfl, .rowF (vB_flat _) id⟩, ?_⟩ | refine ⟨⟨_, _, rfl, rfl, .rowF (vT_flat (by first | exact capi_Addr_flat | exact capi_Tuple_flat | exact cquic_Head_flat | exact capi_Packet_flat | exact cpacket_outer_flat | exact cipfour_Head_flat | exact coctet_Reader_flat | exact cipsix_Head_flat | exact ctcp_Head_flat | exact ctcp_Opt_flat | exact cudp_Head_flat) _) id⟩, ?_⟩ | refine ⟨⟨_, _, rfl, rfl, .tyF (vI_flat _ _)⟩, ?_⟩ | refine ⟨⟨_, _, rfl, rfl, .ty rfl⟩, ?_⟩ | refine ⟨⟨_, _, rfl, rfl, .cells rfl⟩, ?_⟩ | refine ⟨⟨_, _, rfl, rfl, .row rfl id⟩, ?_⟩ | refine ⟨⟨_, _, rfl, rfl, .cr rfl⟩, ?_⟩ | refine ⟨⟨_, _, rfl, rfl, .rc rfl⟩, ?_⟩ | refine ⟨⟨_, _, rfl, rfl, .marks⟩, ?_⟩ | refine ⟨⟨_, _, rfl, rfl, .siter _ _⟩, ?_⟩ | refine ⟨⟨_, _, rfl, rfl, .loop rfl rfl rfl rfl (by repeat' first | exact trivial | refine ⟨rfl, ?_⟩) rfl rfl rfl rfl⟩, ?_⟩)
theorem leads76 (hS : SumsOK Try.prog (aget (sums76))) (most : Int) (l : List Int) (res : Bool) (h : tcp_withinF most l = some res) :
    Leads Try.prog 76 1 ⟨⟨76, 21, [(0, .int .i64 most), (1, .slice (some ⟨0, 0, none⟩) l.length 1)], [.code k76_22], [], false, none⟩, [], [(0, .row false (vI .i64 l))], 1⟩ (fun v H _ => Res 1 (rx76 res) v H) := by
  unfold tcp_withinF at h
  refine ev_ok tab_ok hS true 3000 ?_
  conv => whnf
  have hl := loop76_1 hS _ _ res _ _ _ h rfl; simp only [head76_1] at hl
  refine Leads.re hl [(0, 0)] rfl ?_ ?_ <;> (repeat' first | exact trivial | refine ⟨⟨_, rfl, rfl⟩, ?_⟩ | refine ⟨⟨_, _, rfl, rfl, .rowF (vI_flat _ _) id⟩, ?_⟩ | refine ⟨⟨_, _, rfl, rfl, .rowF (vS_flat _) id⟩, ?_⟩ | refine ⟨⟨_, _, rfl, rfl, .rowF (vB_flat _) id⟩, ?_⟩ | refine ⟨⟨_, _, rfl, rfl, .rowF (vT_flat (by first | exact capi_Addr_flat | exact capi_Tuple_flat | exact cquic_Head_flat | exact capi_Packet_flat | exact cpacket_outer_flat | exact cipfour_Head_flat | exact coctet_Reader_flat | exact cipsix_Head_flat | exact ctcp_Head_flat | exact ctcp_Opt_flat | exact cudp_Head_flat) _) id⟩, ?_⟩ | refine ⟨⟨_, _, rfl, rfl, .tyF (vI_flat _ _)⟩, ?_⟩ | refine ⟨⟨_, _, rfl, rfl, .ty rfl⟩, ?_⟩ | refine ⟨⟨_, _, rfl, rfl, .cells rfl⟩, ?_⟩ | refine ⟨⟨_, _, rfl, rfl, .row rfl id⟩, ?_⟩ | refine ⟨⟨_, _, rfl, rfl, .cr rfl⟩, ?_⟩ | refine ⟨⟨_, _, rfl, rfl, .rc rfl⟩, ?_⟩ | refine ⟨⟨_, _, rfl, rfl, .marks⟩, ?_⟩ | refine ⟨⟨_, _, rfl, rfl, .siter _ _⟩, ?_⟩ | refine ⟨⟨_, _, rfl, rfl, .loop rfl rfl rfl rfl (by repeat' first | exact trivial | refine ⟨rfl, ?_⟩) rfl rfl rfl rfl⟩, ?_⟩)
theorem ok76 (hS : SumsOK Try.prog (aget (sums76))) : SumOK Try.prog 76 (s76 (tcp_withinF)) := by
  refine SumOK.of_leads tab_ok (fun ar os r ha hr => ?_) ⟨Try.f76, rfl, by decide, rfl⟩
  replace hr : r76 (tcp_withinF) ar (conts os) = some r := hr
  unfold r76 at hr
  generalize hc : conts os = C at hr
  replace hr := dV.elim hr; obtain ⟨v0, l1, y0, rfl, e0, hr⟩ := hr; obtain rfl := asI_eq _ _ _ e0
  have hq := dSl.elim hr; clear hr; obtain ⟨c1, l2, C, y1, rfl, rfl, e1, hr⟩ := hq; obtain rfl := unI_eq e1
  replace hr := dFin hr; obtain ⟨rfl, rfl, x, h, rfl⟩ := hr
  obtain ⟨os, rfl, ha, hc⟩ := kinds_some ha hc
  obtain rfl := kinds_nil hc
  exact ⟨_, rfl, leads76 hS _ _ x h⟩
def tcp_within : Int → (List Int) → Option Bool := tcp_withinF
theorem lift76 : SumOK Try.prog 76 (s76 tcp_within) := ok76 (SumsOK.of_tab trivial)
def tcp_Head_mayF (tcp_within : Int → (List Int) → Option Bool) (ha0 : tcp_Head) : Option Bool :=
  (tcp_within 65535 [ha0.SPort, ha0.DPort, ha0.Window, ha0.Urgent]).bind fun w =>
  cond (w)
    (
    (tcp_within 255 [ha0.Flags]).bind fun w1 =>
    cond (w1)
      (
      cond (((ha0.Options.length : Int).tmod 4) == 0)
        (
        some (decide ((ha0.Options.length : Int) ≤ 40)))
        (
        some (false)))
      (
      some (false)))
    (
    some (false))
def rx47 (x : Bool) : SRes := ⟨.bool x, [], []⟩
def r47 (g : tcp_Head → Option Bool) : Dec := dV uvtcp_Head fun (y0 : tcp_Head) => dEnd (ofG (g y0) rx47)
theorem r47_c {g : tcp_Head → Option Bool} {y0 : tcp_Head} {x : Bool} (hx : g y0 = some x) : r47 g [.agg ⟨[.int .i64 y0.SPort, .int .i64 y0.DPort, .int .u32 y0.Seq, .int .u32 y0.Ack, .int .i64 y0.Flags, .int .i64 y0.Window, .int .i64 y0.Urgent, .string ⟨⟨y0.Options⟩⟩]⟩] [] = some (rx47 x) := (dV_eq (uvtcp_Head_c _)).trans (ofG_eq hx)
def s47 (g : tcp_Head → Option Bool) : Summ := ⟨[.v], r47 g⟩
theorem r47_eq {g : tcp_Head → Option Bool} {y0 : tcp_Head} {x : Bool} (hx : g y0 = some x) : (s47 g).run [.agg ⟨[.int .i64 y0.SPort, .int .i64 y0.DPort, .int .u32 y0.Seq, .int .u32 y0.Ack, .int .i64 y0.Flags, .int .i64 y0.Window, .int .i64 y0.Urgent, .string ⟨⟨y0.Options⟩⟩]⟩] [] = some (rx47 x) := r47_c hx
abbrev sums47 (tcp_within : Int → (List Int) → Option Bool) : List (Nat × Summ) := [(76, s76 tcp_within)]
theorem leads47 (tcp_within : Int → (List Int) → Option Bool) (hS : SumsOK Try.prog (aget (sums47 tcp_within))) (ha0 : tcp_Head) (res : Bool) (h : tcp_Head_mayF tcp_within ha0 = some res) :
    Leads Try.prog 47 0 ⟨⟨47, 32, [(0, .agg ⟨[.int .i64 ha0.SPort, .int .i64 ha0.DPort, .int .u32 ha0.Seq, .int .u32 ha0.Ack, .int .i64 ha0.Flags, .int .i64 ha0.Window, .int .i64 ha0.Urgent, .string ⟨⟨ha0.Options⟩⟩]⟩)], [.code k47_3], [], false, none⟩, [], [], 0⟩ (fun v H _ => Res 0 (rx47 res) v H) := by
  unfold tcp_Head_mayF at h
  refine ev_ok tab_ok hS true 3000 ?_
  conv => whnf
  replace h := obind.elim h; obtain ⟨w, hy, h⟩ := h
  refine sumK.introF [] (sumRun_of (aqs := [.int .i64 65535, .slice (some ⟨0, 0, none⟩) ([ha0.SPort, ha0.DPort, ha0.Window, ha0.Urgent] : List Int).length 1]) (ws := [.win 1 0 (4 * 1) false]) (n := 0) (m := 0) (t' := 2) (ra_cons rfl rfl (ra_cons (by first | rfl | exact ra_allI rfl rfl (by first | rfl | omega) (by first | rfl | (simp; done)) | exact ra_slI rfl rfl (by first | rfl | omega) (by first | rfl | omega) (by first | omega | (simp at *; omega))) rfl ra_nil)) rfl (by rfl) (r76_eq hy) rfl rfl rfl rfl (wb_skip rfl wb_nil) an_nil rfl) ?_
  conv => whnf
  refine br.h2 h ?_ ?_ ?_
  · rfl
  · clear h; intro hb h; conv => whnf
    all_goals (cases h; exact Res.z rfl rfl rfl)
  clear h; intro hb h; conv => whnf
  replace h := obind.elim h; obtain ⟨w1, hy, h⟩ := h
  refine sumK.introF [] (sumRun_of (aqs := [.int .i64 255, .slice (some ⟨0, 0, none⟩) ([ha0.Flags] : List Int).length 1]) (ws := [.win 2 0 (1 * 1) false]) (n := 0) (m := 0) (t' := 3) (ra_cons rfl rfl (ra_cons (by first | rfl | exact ra_allI rfl rfl (by first | rfl | omega) (by first | rfl | (simp; done)) | exact ra_slI rfl rfl (by first | rfl | omega) (by first | rfl | omega) (by first | omega | (simp at *; omega))) rfl ra_nil)) rfl (by rfl) (r76_eq hy) rfl rfl rfl rfl (wb_skip rfl wb_nil) an_nil rfl) ?_
  conv => whnf
  refine br.h2 h ?_ ?_ ?_
  · rfl
  · clear h; intro hb h; conv => whnf
    all_goals (cases h; exact Res.z rfl rfl rfl)
  clear h; intro hb h; conv => whnf
  refine br.h h ?_ ?_ ?_
  · rfl
  · clear h; intro hb h; conv => whnf
    all_goals (cases h; exact Res.z rfl rfl rfl)
  clear h; intro hb h; conv => whnf
  all_goals (cases h; exact Res.z rfl rfl rfl)
theorem ok47 (tcp_within : Int → (List Int) → Option Bool) (hS : SumsOK Try.prog (aget (sums47 tcp_within))) : SumOK Try.prog 47 (s47 (tcp_Head_mayF tcp_within)) := by
  refine SumOK.of_leads tab_ok (fun ar os r ha hr => ?_) ⟨Try.f47, rfl, by decide, rfl⟩
  replace hr : r47 (tcp_Head_mayF tcp_within) ar (conts os) = some r := hr
  unfold r47 at hr
  generalize hc : conts os = C at hr
  replace hr := dV.elim hr; obtain ⟨v0, l1, y0, rfl, e0, hr⟩ := hr; obtain rfl := uvtcp_Head_eq _ _ e0
  replace hr := dFin hr; obtain ⟨rfl, rfl, x, h, rfl⟩ := hr
  obtain rfl := kinds_nil hc
  exact ⟨_, rfl, leads47 tcp_within hS _ x h⟩
def tcp_Head_may : tcp_Head → Option Bool := tcp_Head_mayF tcp_within
theorem lift47 : SumOK Try.prog 47 (s47 tcp_Head_may) := ok47 tcp_within (SumsOK.of_tab ⟨lift76, trivial⟩)
def tcp_Head_laidF (octet_Put : Int → Int → Option (List UInt8)) (ha0 : tcp_Head) : Option (List UInt8) :=
  let t := wI .i64 (20 + (ha0.Options.length : Int))
  let t1 := iorI .u64 (wI .u64 ((wI .u64 ha0.SPort) * 2 ^ 16)) (wI .u64 ha0.DPort)
  (octet_Put t1 4).bind fun p =>
  let t2 := iorI .u64 (wI .u64 ((wI .u64 ha0.Seq) * 2 ^ 32)) (wI .u64 ha0.Ack)
  (octet_Put t2 8).bind fun p1 =>
  let t3 := wI .u64 ((wI .u64 ((wI .u64 t).tdiv 4)) * 2 ^ 12)
  (octet_Put (iorI .u64 t3 (wI .u64 ha0.Flags)) 2).bind fun p2 =>
  (octet_Put (wI .u64 ha0.Window) 2).bind fun p3 =>
  oreq (decide (p2.length + p3.length < 2 ^ 63)) <|
  oreq (decide (p.length + p1.length < 2 ^ 63)) <|
  oreq (decide ((p ++ p1).length + (p2 ++ p3).length < 2 ^ 63)) <|
  (octet_Put (wI .u64 ha0.Urgent) 4).bind fun p4 =>
  oreq (decide (((p ++ p1) ++ (p2 ++ p3)).length + p4.length < 2 ^ 63)) <|
  oreq (decide ((((p ++ p1) ++ (p2 ++ p3)) ++ p4).length + ha0.Options.length < 2 ^ 63)) <|
  let t4 := (((p ++ p1) ++ (p2 ++ p3)) ++ p4) ++ ha0.Options
  some (t4)
def rx48 (x : List UInt8) : SRes := ⟨.string ⟨⟨x⟩⟩, [], []⟩
def r48 (g : tcp_Head → Option (List UInt8)) : Dec := dV uvtcp_Head fun (y0 : tcp_Head) => dEnd (ofG (g y0) rx48)
theorem r48_c {g : tcp_Head → Option (List UInt8)} {y0 : tcp_Head} {x : List UInt8} (hx : g y0 = some x) : r48 g [.agg ⟨[.int .i64 y0.SPort, .int .i64 y0.DPort, .int .u32 y0.Seq, .int .u32 y0.Ack, .int .i64 y0.Flags, .int .i64 y0.Window, .int .i64 y0.Urgent, .string ⟨⟨y0.Options⟩⟩]⟩] [] = some (rx48 x) := (dV_eq (uvtcp_Head_c _)).trans (ofG_eq hx)
def s48 (g : tcp_Head → Option (List UInt8)) : Summ := ⟨[.v], r48 g⟩
theorem r48_eq {g : tcp_Head → Option (List UInt8)} {y0 : tcp_Head} {x : List UInt8} (hx : g y0 = some x) : (s48 g).run [.agg ⟨[.int .i64 y0.SPort, .int .i64 y0.DPort, .int .u32 y0.Seq, .int .u32 y0.Ack, .int .i64 y0.Flags, .int .i64 y0.Window, .int .i64 y0.Urgent, .string ⟨⟨y0.Options⟩⟩]⟩] [] = some (rx48 x) := r48_c hx
abbrev sums48 (octet_Put : Int → Int → Option (List UInt8)) : List (Nat × Summ) := [(44, s44 octet_Put)]
theorem leads48 (octet_Put : Int → Int → Option (List UInt8)) (hS : SumsOK Try.prog (aget (sums48 octet_Put))) (ha0 : tcp_Head) (res : List UInt8) (h : tcp_Head_laidF octet_Put ha0 = some res) :
    Leads Try.prog 48 0 ⟨⟨48, 56, [(0, .agg ⟨[.int .i64 ha0.SPort, .int .i64 ha0.DPort, .int .u32 ha0.Seq, .int .u32 ha0.Ack, .int .i64 ha0.Flags, .int .i64 ha0.Window, .int .i64 ha0.Urgent, .string ⟨⟨ha0.Options⟩⟩]⟩)], [.code k48_11], [], false, none⟩, [], [], 0⟩ (fun v H _ => Res 0 (rx48 res) v H) := by
  unfold tcp_Head_laidF at h
  refine ev_ok tab_ok hS true 3000 ?_
  conv => whnf
  let t : Int := wI .i64 (20 + (ha0.Options.length : Int))
  let t1 : Int := iorI .u64 (wI .u64 ((wI .u64 ha0.SPort) * 2 ^ 16)) (wI .u64 ha0.DPort)
  replace h := obind.elim h; obtain ⟨p, hy, h⟩ := h
  refine sumK.q rfl rfl (r44_eq hy) rfl rfl rfl ?_
  conv => whnf
  let t2 : Int := iorI .u64 (wI .u64 ((wI .u64 ha0.Seq) * 2 ^ 32)) (wI .u64 ha0.Ack)
  replace h := obind.elim h; obtain ⟨p1, hy, h⟩ := h
  refine sumK.q rfl rfl (r44_eq hy) rfl rfl rfl ?_
  conv => whnf
  let t3 : Int := wI .u64 ((wI .u64 ((wI .u64 t).tdiv 4)) * 2 ^ 12)
  replace h := obind.elim h; obtain ⟨p2, hy, h⟩ := h
  refine sumK.q rfl rfl (r44_eq hy) rfl rfl rfl ?_
  conv => whnf
  replace h := obind.elim h; obtain ⟨p3, hy, h⟩ := h
  refine sumK.q rfl rfl (r44_eq hy) rfl rfl rfl ?_
  conv => whnf
  replace h := oreq.elim h; obtain ⟨hb, h⟩ := h
  first | (refine req.intro hb ?_; conv => whnf) | skip
  replace h := oreq.elim h; obtain ⟨hb, h⟩ := h
  first | (refine req.intro hb ?_; conv => whnf) | skip
  replace h := oreq.elim h; obtain ⟨hb, h⟩ := h
  first | (refine req.intro hb ?_; conv => whnf) | skip
  replace h := obind.elim h; obtain ⟨p4, hy, h⟩ := h
  refine sumK.q rfl rfl (r44_eq hy) rfl rfl rfl ?_
  conv => whnf
  replace h := oreq.elim h; obtain ⟨hb, h⟩ := h
  first | (refine req.intro hb ?_; conv => whnf) | skip
  replace h := oreq.elim h; obtain ⟨hb, h⟩ := h
  first | (refine req.intro hb ?_; conv => whnf) | skip
  let t4 : List UInt8 := (((p ++ p1) ++ (p2 ++ p3)) ++ p4) ++ ha0.Options
  all_goals (cases h; exact Res.z rfl rfl rfl)
theorem ok48 (octet_Put : Int → Int → Option (List UInt8)) (hS : SumsOK Try.prog (aget (sums48 octet_Put))) : SumOK Try.prog 48 (s48 (tcp_Head_laidF octet_Put)) := by
  refine SumOK.of_leads tab_ok (fun ar os r ha hr => ?_) ⟨Try.f48, rfl, by decide, rfl⟩
  replace hr : r48 (tcp_Head_laidF octet_Put) ar (conts os) = some r := hr
  unfold r48 at hr
  generalize hc : conts os = C at hr
  replace hr := dV.elim hr; obtain ⟨v0, l1, y0, rfl, e0, hr⟩ := hr; obtain rfl := uvtcp_Head_eq _ _ e0
  replace hr := dFin hr; obtain ⟨rfl, rfl, x, h, rfl⟩ := hr
  obtain rfl := kinds_nil hc
  exact ⟨_, rfl, leads48 octet_Put hS _ x h⟩
def tcp_Head_laid : tcp_Head → Option (List UInt8) := tcp_Head_laidF octet_Put
theorem lift48 : SumOK Try.prog 48 (s48 tcp_Head_laid) := ok48 octet_Put (SumsOK.of_tab ⟨lift44, trivial⟩)
def tcp_PutF (check_Of : (List UInt8) → Option Int) (check_Set : (List UInt8) → Int → Int → Int → Option (List UInt8)) (ipfour_Pseudo : api_Addr → api_Addr → Int → Int → Option (List UInt8)) (tcp_Head_laid : tcp_Head → Option (List UInt8)) (tcp_Head_may : tcp_Head → Option Bool) (ha0 : tcp_Head) (src : api_Addr) (dst : api_Addr) (payload : List UInt8) : Option ((List UInt8) × Int) :=
  let t := wI .i64 (20 + (ha0.Options.length : Int))
  (ipfour_Pseudo src dst 6 (wI .i64 (t + (payload.length : Int)))).bind fun p =>
  (tcp_Head_may ha0).bind fun m =>
  cond (!m)
    (
    some (([], 1)))
    (
    cond (p == [])
      (
      some (([], 1)))
      (
      let t1 := decide ((payload.length : Int) > (wI .i64 (65535 - t)))
      cond (t1)
        (
        some (([], 5)))
        (
        (tcp_Head_laid ha0).bind fun l =>
        oreq (decide (l.length + payload.length < 2 ^ 63)) <|
        oreq (decide (p.length + (l ++ payload).length < 2 ^ 63)) <|
        (check_Of (p ++ (l ++ payload))).bind fun xo =>
        (check_Set (l ++ payload) 16 2 (wI .u64 xo)).bind fun s =>
        some ((s, 0)))))
def rx31 (x : (List UInt8) × Int) : SRes := ⟨.tuple ⟨[.string ⟨⟨x.1⟩⟩, .int .i64 x.2]⟩, [], []⟩
def r31 (g : tcp_Head → api_Addr → api_Addr → (List UInt8) → Option ((List UInt8) × Int)) : Dec := dV uvtcp_Head fun (y0 : tcp_Head) => dV uvapi_Addr fun (y1 : api_Addr) => dV uvapi_Addr fun (y2 : api_Addr) => dV asS fun (y3 : List UInt8) => dEnd (ofG (g y0 y1 y2 y3) rx31)
theorem r31_c {g : tcp_Head → api_Addr → api_Addr → (List UInt8) → Option ((List UInt8) × Int)} {y0 : tcp_Head} {y1 : api_Addr} {y2 : api_Addr} {y3 : List UInt8} {x : (List UInt8) × Int} (hx : g y0 y1 y2 y3 = some x) : r31 g [.agg ⟨[.int .i64 y0.SPort, .int .i64 y0.DPort, .int .u32 y0.Seq, .int .u32 y0.Ack, .int .i64 y0.Flags, .int .i64 y0.Window, .int .i64 y0.Urgent, .string ⟨⟨y0.Options⟩⟩]⟩, .agg ⟨[.bool y1.V6, .int .u64 y1.Hi, .int .u64 y1.Lo]⟩, .agg ⟨[.bool y2.V6, .int .u64 y2.Hi, .int .u64 y2.Lo]⟩, .string ⟨⟨y3⟩⟩] [] = some (rx31 x) := (dV_eq (uvtcp_Head_c _)).trans ((dV_eq (uvapi_Addr_c _)).trans ((dV_eq (uvapi_Addr_c _)).trans ((dV_eq (asS_c)).trans (ofG_eq hx))))
def s31 (g : tcp_Head → api_Addr → api_Addr → (List UInt8) → Option ((List UInt8) × Int)) : Summ := ⟨[.v, .v, .v, .v], r31 g⟩
theorem r31_eq {g : tcp_Head → api_Addr → api_Addr → (List UInt8) → Option ((List UInt8) × Int)} {y0 : tcp_Head} {y1 : api_Addr} {y2 : api_Addr} {y3 : List UInt8} {x : (List UInt8) × Int} (hx : g y0 y1 y2 y3 = some x) : (s31 g).run [.agg ⟨[.int .i64 y0.SPort, .int .i64 y0.DPort, .int .u32 y0.Seq, .int .u32 y0.Ack, .int .i64 y0.Flags, .int .i64 y0.Window, .int .i64 y0.Urgent, .string ⟨⟨y0.Options⟩⟩]⟩, .agg ⟨[.bool y1.V6, .int .u64 y1.Hi, .int .u64 y1.Lo]⟩, .agg ⟨[.bool y2.V6, .int .u64 y2.Hi, .int .u64 y2.Lo]⟩, .string ⟨⟨y3⟩⟩] [] = some (rx31 x) := r31_c hx
abbrev sums31 (check_Of : (List UInt8) → Option Int) (check_Set : (List UInt8) → Int → Int → Int → Option (List UInt8)) (ipfour_Pseudo : api_Addr → api_Addr → Int → Int → Option (List UInt8)) (tcp_Head_laid : tcp_Head → Option (List UInt8)) (tcp_Head_may : tcp_Head → Option Bool) : List (Nat × Summ) := [(49, s49 check_Of), (28, s28 check_Set), (46, s46 ipfour_Pseudo), (48, s48 tcp_Head_laid), (47, s47 tcp_Head_may)]
theorem leads31 (check_Of : (List UInt8) → Option Int) (check_Set : (List UInt8) → Int → Int → Int → Option (List UInt8)) (ipfour_Pseudo : api_Addr → api_Addr → Int → Int → Option (List UInt8)) (tcp_Head_laid : tcp_Head → Option (List UInt8)) (tcp_Head_may : tcp_Head → Option Bool) (hS : SumsOK Try.prog (aget (sums31 check_Of check_Set ipfour_Pseudo tcp_Head_laid tcp_Head_may))) (ha0 : tcp_Head) (src : api_Addr) (dst : api_Addr) (payload : List UInt8) (res : (List UInt8) × Int) (h : tcp_PutF check_Of check_Set ipfour_Pseudo tcp_Head_laid tcp_Head_may ha0 src dst payload = some res) :
    Leads Try.prog 31 0 ⟨⟨31, 49, [(0, .agg ⟨[.int .i64 ha0.SPort, .int .i64 ha0.DPort, .int .u32 ha0.Seq, .int .u32 ha0.Ack, .int .i64 ha0.Flags, .int .i64 ha0.Window, .int .i64 ha0.Urgent, .string ⟨⟨ha0.Options⟩⟩]⟩), (1, .agg ⟨[.bool src.V6, .int .u64 src.Hi, .int .u64 src.Lo]⟩), (2, .agg ⟨[.bool dst.V6, .int .u64 dst.Hi, .int .u64 dst.Lo]⟩), (3, .string ⟨⟨payload⟩⟩)], [.code k31_21], [], false, none⟩, [], [], 0⟩ (fun v H _ => Res 0 (rx31 res) v H) := by
  unfold tcp_PutF at h
  refine ev_ok tab_ok hS true 3000 ?_
  conv => whnf
  let t : Int := wI .i64 (20 + (ha0.Options.length : Int))
  replace h := obind.elim h; obtain ⟨p, hy, h⟩ := h
  refine sumK.q rfl rfl (r46_eq hy) rfl rfl rfl ?_
  conv => whnf
  replace h := obind.elim h; obtain ⟨m, hy, h⟩ := h
  refine sumK.q rfl rfl (r47_eq hy) rfl rfl rfl ?_
  conv => whnf
  refine br.h h ?_ ?_ ?_
  · rfl
  · clear h; intro hb h; conv => whnf
    all_goals (cases h; exact Res.z rfl rfl rfl)
  clear h; intro hb h; conv => whnf
  refine br.h h ?_ ?_ ?_
  · rfl
  · clear h; intro hb h; conv => whnf
    all_goals (cases h; exact Res.z rfl rfl rfl)
  clear h; intro hb h; conv => whnf
  let t1 : Bool := decide ((payload.length : Int) > (wI .i64 (65535 - t)))
  refine br.h h ?_ ?_ ?_
  · rfl
  · clear h; intro hb h; conv => whnf
    all_goals (cases h; exact Res.z rfl rfl rfl)
  clear h; intro hb h; conv => whnf
  replace h := obind.elim h; obtain ⟨l, hy, h⟩ := h
  refine sumK.q rfl rfl (r48_eq hy) rfl rfl rfl ?_
  conv => whnf
  replace h := oreq.elim h; obtain ⟨hb, h⟩ := h
  first | (refine req.intro hb ?_; conv => whnf) | skip
  replace h := oreq.elim h; obtain ⟨hb, h⟩ := h
  first | (refine req.intro hb ?_; conv => whnf) | skip
  replace h := obind.elim h; obtain ⟨xo, hy, h⟩ := h
  refine sumK.q rfl rfl (r49_eq hy) rfl rfl rfl ?_
  conv => whnf
  replace h := obind.elim h; obtain ⟨s, hy, h⟩ := h
  refine sumK.q rfl rfl (r28_eq hy) rfl rfl rfl ?_
  conv => whnf
  all_goals (cases h; exact Res.z rfl rfl rfl)
theorem ok31 (check_Of : (List UInt8) → Option Int) (check_Set : (List UInt8) → Int → Int → Int → Option (List UInt8)) (ipfour_Pseudo : api_Addr → api_Addr → Int → Int → Option (List UInt8)) (tcp_Head_laid : tcp_Head → Option (List UInt8)) (tcp_Head_may : tcp_Head → Option Bool) (hS : SumsOK Try.prog (aget (sums31 check_Of check_Set ipfour_Pseudo tcp_Head_laid tcp_Head_may))) : SumOK Try.prog 31 (s31 (tcp_PutF check_Of check_Set ipfour_Pseudo tcp_Head_laid tcp_Head_may)) := by
  refine SumOK.of_leads tab_ok (fun ar os r ha hr => ?_) ⟨Try.f31, rfl, by decide, rfl⟩
  replace hr : r31 (tcp_PutF check_Of check_Set ipfour_Pseudo tcp_Head_laid tcp_Head_may) ar (conts os) = some r := hr
  unfold r31 at hr
  generalize hc : conts os = C at hr
  replace hr := dV.elim hr; obtain ⟨v0, l1, y0, rfl, e0, hr⟩ := hr; obtain rfl := uvtcp_Head_eq _ _ e0
  replace hr := dV.elim hr; obtain ⟨v1, l2, y1, rfl, e1, hr⟩ := hr; obtain rfl := uvapi_Addr_eq _ _ e1
  replace hr := dV.elim hr; obtain ⟨v2, l3, y2, rfl, e2, hr⟩ := hr; obtain rfl := uvapi_Addr_eq _ _ e2
  replace hr := dV.elim hr; obtain ⟨v3, l4, y3, rfl, e3, hr⟩ := hr; obtain rfl := asS_eq _ _ e3
  replace hr := dFin hr; obtain ⟨rfl, rfl, x, h, rfl⟩ := hr
  obtain rfl := kinds_nil hc
  exact ⟨_, rfl, leads31 check_Of check_Set ipfour_Pseudo tcp_Head_laid tcp_Head_may hS _ _ _ _ x h⟩
def tcp_Put : tcp_Head → api_Addr → api_Addr → (List UInt8) → Option ((List UInt8) × Int) := tcp_PutF check_Of check_Set ipfour_Pseudo tcp_Head_laid tcp_Head_may
theorem lift31 : SumOK Try.prog 31 (s31 tcp_Put) := ok31 check_Of check_Set ipfour_Pseudo tcp_Head_laid tcp_Head_may (SumsOK.of_tab ⟨lift49, lift28, lift46, lift48, lift47, trivial⟩)
def tcp_parsedF (octet_New : (List UInt8) → Option octet_Reader) (octet_Reader_Num : octet_Reader → Int → Option (Int × octet_Reader)) (octet_Reader_Text : octet_Reader → Int → Option ((List UInt8) × octet_Reader)) (s : List UInt8) (size : Int) : Option tcp_Head :=
  (octet_New s).bind fun n =>
  (octet_Reader_Num n 2).bind fun n1 =>
  (octet_Reader_Num n1.2 2).bind fun n2 =>
  (octet_Reader_Num n2.2 4).bind fun n3 =>
  (octet_Reader_Num n3.2 4).bind fun n4 =>
  (octet_Reader_Num n4.2 2).bind fun n5 =>
  (octet_Reader_Num n5.2 2).bind fun n6 =>
  (octet_Reader_Num n6.2 2).bind fun n7 =>
  (octet_Reader_Num n7.2 2).bind fun n8 =>
  (octet_Reader_Text n8.2 (wI .i64 (size - 20))).bind fun t =>
  some (tcp_Head.mk n1.1 n2.1 (wI .u32 n3.1) (wI .u32 n4.1) (andI .i64 n5.1 255) n6.1 n8.1 t.1)
def rx102 (x : tcp_Head) : SRes := ⟨.agg ⟨[.int .i64 x.SPort, .int .i64 x.DPort, .int .u32 x.Seq, .int .u32 x.Ack, .int .i64 x.Flags, .int .i64 x.Window, .int .i64 x.Urgent, .string ⟨⟨x.Options⟩⟩]⟩, [], []⟩
def r102 (g : (List UInt8) → Int → Option tcp_Head) : Dec := dV asS fun (y0 : List UInt8) => dV (asI .i64) fun (y1 : Int) => dEnd (ofG (g y0 y1) rx102)
theorem r102_c {g : (List UInt8) → Int → Option tcp_Head} {y0 : List UInt8} {y1 : Int} {x : tcp_Head} (hx : g y0 y1 = some x) : r102 g [.string ⟨⟨y0⟩⟩, .int .i64 y1] [] = some (rx102 x) := (dV_eq (asS_c)).trans ((dV_eq (asI_c _)).trans (ofG_eq hx))
def s102 (g : (List UInt8) → Int → Option tcp_Head) : Summ := ⟨[.v, .v], r102 g⟩
theorem r102_eq {g : (List UInt8) → Int → Option tcp_Head} {y0 : List UInt8} {y1 : Int} {x : tcp_Head} (hx : g y0 y1 = some x) : (s102 g).run [.string ⟨⟨y0⟩⟩, .int .i64 y1] [] = some (rx102 x) := r102_c hx
abbrev sums102 (octet_New : (List UInt8) → Option octet_Reader) (octet_Reader_Num : octet_Reader → Int → Option (Int × octet_Reader)) (octet_Reader_Text : octet_Reader → Int → Option ((List UInt8) × octet_Reader)) : List (Nat × Summ) := [(103, s103 octet_New), (104, s104 octet_Reader_Num), (106, s106 octet_Reader_Text)]
theorem leads102 (octet_New : (List UInt8) → Option octet_Reader) (octet_Reader_Num : octet_Reader → Int → Option (Int × octet_Reader)) (octet_Reader_Text : octet_Reader → Int → Option ((List UInt8) × octet_Reader)) (hS : SumsOK Try.prog (aget (sums102 octet_New octet_Reader_Num octet_Reader_Text))) (s : List UInt8) (size : Int) (res : tcp_Head) (h : tcp_parsedF octet_New octet_Reader_Num octet_Reader_Text s size = some res) :
    Leads Try.prog 102 0 ⟨⟨102, 38, [(0, .string ⟨⟨s⟩⟩), (1, .int .i64 size)], [.code k102_17], [], false, none⟩, [], [], 0⟩ (fun v H _ => Res 0 (rx102 res) v H) := by
  unfold tcp_parsedF at h
  refine ev_ok tab_ok hS true 3000 ?_
  conv => whnf
  replace h := obind.elim h; obtain ⟨n, hy, h⟩ := h
  refine sumK.introF [1] (sumRun_of (aqs := [.string ⟨⟨s⟩⟩]) (ws := []) (n := 1) (m := 0) (t' := 2) (ra_cons rfl rfl ra_nil) rfl (by rfl) (r103_eq hy) rfl rfl rfl rfl wb_nil (an_cons (rfl) an_nil) rfl) ?_
  conv => whnf
  replace h := obind.elim h; obtain ⟨n1, hy, h⟩ := h
  refine sumK.introF [1] (sumRun_of (aqs := [.pointer (some ⟨0, 0, none⟩), .int .i64 2]) (ws := [.win 1 0 3 true]) (n := 0) (m := 0) (t' := 2) (ra_cons rfl rfl (ra_cons rfl rfl ra_nil)) rfl (by rfl) (r104_eq hy) rfl rfl rfl rfl (wb_win rfl rfl rfl ⟨rfl, Nat.le_of_ble_eq_true rfl⟩ rfl rfl wb_nil) an_nil rfl) ?_
  conv => whnf
  replace h := obind.elim h; obtain ⟨n2, hy, h⟩ := h
  refine sumK.introF [1] (sumRun_of (aqs := [.pointer (some ⟨0, 0, none⟩), .int .i64 2]) (ws := [.win 1 0 3 true]) (n := 0) (m := 0) (t' := 2) (ra_cons rfl rfl (ra_cons rfl rfl ra_nil)) rfl (by rfl) (r104_eq hy) rfl rfl rfl rfl (wb_win rfl rfl rfl ⟨rfl, Nat.le_of_ble_eq_true rfl⟩ rfl rfl wb_nil) an_nil rfl) ?_
  conv => whnf
  replace h := obind.elim h; obtain ⟨n3, hy, h⟩ := h
  refine sumK.introF [1] (sumRun_of (aqs := [.pointer (some ⟨0, 0, none⟩), .int .i64 4]) (ws := [.win 1 0 3 true]) (n := 0) (m := 0) (t' := 2) (ra_cons rfl rfl (ra_cons rfl rfl ra_nil)) rfl (by rfl) (r104_eq hy) rfl rfl rfl rfl (wb_win rfl rfl rfl ⟨rfl, Nat.le_of_ble_eq_true rfl⟩ rfl rfl wb_nil) an_nil rfl) ?_
  conv => whnf
  replace h := obind.elim h; obtain ⟨n4, hy, h⟩ := h
  refine sumK.introF [1] (sumRun_of (aqs := [.pointer (some ⟨0, 0, none⟩), .int .i64 4]) (ws := [.win 1 0 3 true]) (n := 0) (m := 0) (t' := 2) (ra_cons rfl rfl (ra_cons rfl rfl ra_nil)) rfl (by rfl) (r104_eq hy) rfl rfl rfl rfl (wb_win rfl rfl rfl ⟨rfl, Nat.le_of_ble_eq_true rfl⟩ rfl rfl wb_nil) an_nil rfl) ?_
  conv => whnf
  replace h := obind.elim h; obtain ⟨n5, hy, h⟩ := h
  refine sumK.introF [1] (sumRun_of (aqs := [.pointer (some ⟨0, 0, none⟩), .int .i64 2]) (ws := [.win 1 0 3 true]) (n := 0) (m := 0) (t' := 3) (ra_cons rfl rfl (ra_cons rfl rfl ra_nil)) rfl (by rfl) (r104_eq hy) rfl rfl rfl rfl (wb_win rfl rfl rfl ⟨rfl, Nat.le_of_ble_eq_true rfl⟩ rfl rfl wb_nil) an_nil rfl) ?_
  conv => whnf
  replace h := obind.elim h; obtain ⟨n6, hy, h⟩ := h
  refine sumK.introF [1] (sumRun_of (aqs := [.pointer (some ⟨0, 0, none⟩), .int .i64 2]) (ws := [.win 1 0 3 true]) (n := 0) (m := 0) (t' := 3) (ra_cons rfl rfl (ra_cons rfl rfl ra_nil)) rfl (by rfl) (r104_eq hy) rfl rfl rfl rfl (wb_win rfl rfl rfl ⟨rfl, Nat.le_of_ble_eq_true rfl⟩ rfl rfl wb_nil) an_nil rfl) ?_
  conv => whnf
  replace h := obind.elim h; obtain ⟨n7, hy, h⟩ := h
  refine sumK.introF [1] (sumRun_of (aqs := [.pointer (some ⟨0, 0, none⟩), .int .i64 2]) (ws := [.win 1 0 3 true]) (n := 0) (m := 0) (t' := 3) (ra_cons rfl rfl (ra_cons rfl rfl ra_nil)) rfl (by rfl) (r104_eq hy) rfl rfl rfl rfl (wb_win rfl rfl rfl ⟨rfl, Nat.le_of_ble_eq_true rfl⟩ rfl rfl wb_nil) an_nil rfl) ?_
  conv => whnf
  replace h := obind.elim h; obtain ⟨n8, hy, h⟩ := h
  refine sumK.introF [1] (sumRun_of (aqs := [.pointer (some ⟨0, 0, none⟩), .int .i64 2]) (ws := [.win 1 0 3 true]) (n := 0) (m := 0) (t' := 3) (ra_cons rfl rfl (ra_cons rfl rfl ra_nil)) rfl (by rfl) (r104_eq hy) rfl rfl rfl rfl (wb_win rfl rfl rfl ⟨rfl, Nat.le_of_ble_eq_true rfl⟩ rfl rfl wb_nil) an_nil rfl) ?_
  conv => whnf
  replace h := obind.elim h; obtain ⟨t, hy, h⟩ := h
  refine sumK.introF [1] (sumRun_of (aqs := [.pointer (some ⟨0, 0, none⟩), .int .i64 (wI .i64 (size - 20))]) (ws := [.win 1 0 3 true]) (n := 0) (m := 0) (t' := 3) (ra_cons rfl rfl (ra_cons rfl rfl ra_nil)) rfl (by rfl) (r106_eq hy) rfl rfl rfl rfl (wb_win rfl rfl rfl ⟨rfl, Nat.le_of_ble_eq_true rfl⟩ rfl rfl wb_nil) an_nil rfl) ?_
  conv => whnf
  all_goals (cases h; exact Res.z rfl rfl rfl)
theorem ok102 (octet_New : (List UInt8) → Option octet_Reader) (octet_Reader_Num : octet_Reader → Int → Option (Int × octet_Reader)) (octet_Reader_Text : octet_Reader → Int → Option ((List UInt8) × octet_Reader)) (hS : SumsOK Try.prog (aget (sums102 octet_New octet_Reader_Num octet_Reader_Text))) : SumOK Try.prog 102 (s102 (tcp_parsedF octet_New octet_Reader_Num octet_Reader_Text)) := by
  refine SumOK.of_leads tab_ok (fun ar os r ha hr => ?_) ⟨Try.f102, rfl, by decide, rfl⟩
  replace hr : r102 (tcp_parsedF octet_New octet_Reader_Num octet_Reader_Text) ar (conts os) = some r := hr
  unfold r102 at hr
  generalize hc : conts os = C at hr
  replace hr := dV.elim hr; obtain ⟨v0, l1, y0, rfl, e0, hr⟩ := hr; obtain rfl := asS_eq _ _ e0
  replace hr := dV.elim hr; obtain ⟨v1, l2, y1, rfl, e1, hr⟩ := hr; obtain rfl := asI_eq _ _ _ e1
  replace hr := dFin hr; obtain ⟨rfl, rfl, x, h, rfl⟩ := hr
  obtain rfl := kinds_nil hc
  exact ⟨_, rfl, leads102 octet_New octet_Reader_Num octet_Reader_Text hS _ _ x h⟩
def tcp_parsed : (List UInt8) → Int → Option tcp_Head := tcp_parsedF octet_New octet_Reader_Num octet_Reader_Text
theorem lift102 : SumOK Try.prog 102 (s102 tcp_parsed) := ok102 octet_New octet_Reader_Num octet_Reader_Text (SumsOK.of_tab ⟨lift103, lift104, lift106, trivial⟩)
def tcp_GetF (check_Right : (List UInt8) → Option Bool) (ipfour_Pseudo : api_Addr → api_Addr → Int → Int → Option (List UInt8)) (tcp_List : (List UInt8) → Option ((List tcp_Opt) × Int)) (tcp_parsed : (List UInt8) → Int → Option tcp_Head) (s : List UInt8) (src : api_Addr) (dst : api_Addr) : Option (tcp_Head × (List UInt8) × Int) :=
  cond (decide ((s.length : Int) < 20))
    (
    some ((tcp_Head.mk 0 0 0 0 0 0 0 [], [], 2)))
    (
    (s[12]?).bind fun (b : UInt8) =>
    (s[12]?).bind fun (b1 : UInt8) =>
    let t := wI .i64 (4 * (wI .i64 ((b.toNat : Int).fdiv (2 ^ 4))))
    cond (decide (t < 20))
      (
      some ((tcp_Head.mk 0 0 0 0 0 0 0 [], [], 3)))
      (
      cond ((andI .u8 (b1.toNat : Int) 15) != 0)
        (
        some ((tcp_Head.mk 0 0 0 0 0 0 0 [], [], 3)))
        (
        cond (decide (t > (s.length : Int)))
          (
          some ((tcp_Head.mk 0 0 0 0 0 0 0 [], [], 2)))
          (
          (ipfour_Pseudo src dst 6 (s.length : Int)).bind fun p =>
          cond (p == [])
            (
            some ((tcp_Head.mk 0 0 0 0 0 0 0 [], [], 1)))
            (
            oreq (decide (p.length + s.length < 2 ^ 63)) <|
            (check_Right (p ++ s)).bind fun xr =>
            cond (!xr)
              (
              some ((tcp_Head.mk 0 0 0 0 0 0 0 [], [], 4)))
              (
              (tcp_parsed s t).bind fun p1 =>
              (tcp_List p1.Options).bind fun l =>
              cond (l.2 != 0)
                (
                some ((tcp_Head.mk 0 0 0 0 0 0 0 [], [], l.2)))
                (
                oreq (decide ((0 : Int) ≤ t ∧ t ≤ (s.length : Int))) <|
                let t1 := (s.drop t.toNat).take (s.length - t.toNat)
                some ((p1, t1, 0)))))))))
def rx81 (x : tcp_Head × (List UInt8) × Int) : SRes := ⟨.tuple ⟨[.agg ⟨[.int .i64 x.1.SPort, .int .i64 x.1.DPort, .int .u32 x.1.Seq, .int .u32 x.1.Ack, .int .i64 x.1.Flags, .int .i64 x.1.Window, .int .i64 x.1.Urgent, .string ⟨⟨x.1.Options⟩⟩]⟩, .string ⟨⟨x.2.1⟩⟩, .int .i64 x.2.2]⟩, [], []⟩
def r81 (g : (List UInt8) → api_Addr → api_Addr → Option (tcp_Head × (List UInt8) × Int)) : Dec := dV asS fun (y0 : List UInt8) => dV uvapi_Addr fun (y1 : api_Addr) => dV uvapi_Addr fun (y2 : api_Addr) => dEnd (ofG (g y0 y1 y2) rx81)
theorem r81_c {g : (List UInt8) → api_Addr → api_Addr → Option (tcp_Head × (List UInt8) × Int)} {y0 : List UInt8} {y1 : api_Addr} {y2 : api_Addr} {x : tcp_Head × (List UInt8) × Int} (hx : g y0 y1 y2 = some x) : r81 g [.string ⟨⟨y0⟩⟩, .agg ⟨[.bool y1.V6, .int .u64 y1.Hi, .int .u64 y1.Lo]⟩, .agg ⟨[.bool y2.V6, .int .u64 y2.Hi, .int .u64 y2.Lo]⟩] [] = some (rx81 x) := (dV_eq (asS_c)).trans ((dV_eq (uvapi_Addr_c _)).trans ((dV_eq (uvapi_Addr_c _)).trans (ofG_eq hx)))
def s81 (g : (List UInt8) → api_Addr → api_Addr → Option (tcp_Head × (List UInt8) × Int)) : Summ := ⟨[.v, .v, .v], r81 g⟩
theorem r81_eq {g : (List UInt8) → api_Addr → api_Addr → Option (tcp_Head × (List UInt8) × Int)} {y0 : List UInt8} {y1 : api_Addr} {y2 : api_Addr} {x : tcp_Head × (List UInt8) × Int} (hx : g y0 y1 y2 = some x) : (s81 g).run [.string ⟨⟨y0⟩⟩, .agg ⟨[.bool y1.V6, .int .u64 y1.Hi, .int .u64 y1.Lo]⟩, .agg ⟨[.bool y2.V6, .int .u64 y2.Hi, .int .u64 y2.Lo]⟩] [] = some (rx81 x) := r81_c hx
abbrev sums81 (check_Right : (List UInt8) → Option Bool) (ipfour_Pseudo : api_Addr → api_Addr → Int → Int → Option (List UInt8)) (tcp_List : (List UInt8) → Option ((List tcp_Opt) × Int)) (tcp_parsed : (List UInt8) → Int → Option tcp_Head) : List (Nat × Summ) := [(101, s101 check_Right), (46, s46 ipfour_Pseudo), (91, s91 tcp_List), (102, s102 tcp_parsed)]
theorem leads81 (check_Right : (List UInt8) → Option Bool) (ipfour_Pseudo : api_Addr → api_Addr → Int → Int → Option (List UInt8)) (tcp_List : (List UInt8) → Option ((List tcp_Opt) × Int)) (tcp_parsed : (List UInt8) → Int → Option tcp_Head) (hS : SumsOK Try.prog (aget (sums81 check_Right ipfour_Pseudo tcp_List tcp_parsed))) (s : List UInt8) (src : api_Addr) (dst : api_Addr) (res : tcp_Head × (List UInt8) × Int) (h : tcp_GetF check_Right ipfour_Pseudo tcp_List tcp_parsed s src dst = some res) :
    Leads Try.prog 81 0 ⟨⟨81, 76, [(0, .string ⟨⟨s⟩⟩), (1, .agg ⟨[.bool src.V6, .int .u64 src.Hi, .int .u64 src.Lo]⟩), (2, .agg ⟨[.bool dst.V6, .int .u64 dst.Hi, .int .u64 dst.Lo]⟩)], [.code k81_49], [], false, none⟩, [], [], 0⟩ (fun v H _ => Res 0 (rx81 res) v H) := by
  unfold tcp_GetF at h
  refine ev_ok tab_ok hS true 3000 ?_
  conv => whnf
  refine br.h h ?_ ?_ ?_
  · rfl
  · clear h; intro hb h; conv => whnf
    all_goals (cases h; exact Res.z rfl rfl rfl)
  clear h; intro hb h; conv => whnf
  replace h := obind.elim h; obtain ⟨b, hy, h⟩ := h
  refine rdS.intro hy ?_
  conv => whnf
  replace h := obind.elim h; obtain ⟨b1, hy, h⟩ := h
  refine rdS.intro hy ?_
  conv => whnf
  let t : Int := wI .i64 (4 * (wI .i64 ((b.toNat : Int).fdiv (2 ^ 4))))
  refine br.h h ?_ ?_ ?_
  · rfl
  · clear h; intro hb h; conv => whnf
    all_goals (cases h; exact Res.z rfl rfl rfl)
  clear h; intro hb h; conv => whnf
  refine br.h h ?_ ?_ ?_
  · rfl
  · clear h; intro hb h; conv => whnf
    all_goals (cases h; exact Res.z rfl rfl rfl)
  clear h; intro hb h; conv => whnf
  refine br.h h ?_ ?_ ?_
  · rfl
  · clear h; intro hb h; conv => whnf
    all_goals (cases h; exact Res.z rfl rfl rfl)
  clear h; intro hb h; conv => whnf
  replace h := obind.elim h; obtain ⟨p, hy, h⟩ := h
  refine sumK.q rfl rfl (r46_eq hy) rfl rfl rfl ?_
  conv => whnf
  refine br.h h ?_ ?_ ?_
  · rfl
  · clear h; intro hb h; conv => whnf
    all_goals (cases h; exact Res.z rfl rfl rfl)
  clear h; intro hb h; conv => whnf
  replace h := oreq.elim h; obtain ⟨hb, h⟩ := h
  first | (refine req.intro hb ?_; conv => whnf) | skip
  replace h := obind.elim h; obtain ⟨xr, hy, h⟩ := h
  refine sumK.q rfl rfl (r101_eq hy) rfl rfl rfl ?_
  conv => whnf
  refine br.h h ?_ ?_ ?_
  · rfl
  · clear h; intro hb h; conv => whnf
    all_goals (cases h; exact Res.z rfl rfl rfl)
  clear h; intro hb h; conv => whnf
  replace h := obind.elim h; obtain ⟨p1, hy, h⟩ := h
  refine sumK.q rfl rfl (r102_eq hy) rfl rfl rfl ?_
  conv => whnf
  replace h := obind.elim h; obtain ⟨l, hy, h⟩ := h
  refine sumK.introF [] (sumRun_of (aqs := [.string ⟨⟨p1.Options⟩⟩]) (ws := []) (n := 1) (m := 0) (t' := 13) (ra_cons rfl rfl ra_nil) rfl (by rfl) (r91_eq hy) rfl rfl rfl rfl wb_nil (an_cons (rn_T ctcp_Opt_flat) an_nil) rfl) ?_
  conv => whnf
  refine br.h h ?_ ?_ ?_
  · rfl
  · clear h; intro hb h; conv => whnf
    all_goals (cases h; exact Res.z rfl rfl rfl)
  clear h; intro hb h; conv => whnf
  replace h := oreq.elim h; obtain ⟨hb, h⟩ := h
  first | (refine req.intro hb ?_; conv => whnf) | skip
  let t1 : List UInt8 := (s.drop t.toNat).take (s.length - t.toNat)
  all_goals (cases h; exact Res.z rfl rfl rfl)
theorem ok81 (check_Right : (List UInt8) → Option Bool) (ipfour_Pseudo : api_Addr → api_Addr → Int → Int → Option (List UInt8)) (tcp_List : (List UInt8) → Option ((List tcp_Opt) × Int)) (tcp_parsed : (List UInt8) → Int → Option tcp_Head) (hS : SumsOK Try.prog (aget (sums81 check_Right ipfour_Pseudo tcp_List tcp_parsed))) : SumOK Try.prog 81 (s81 (tcp_GetF check_Right ipfour_Pseudo tcp_List tcp_parsed)) := by
  refine SumOK.of_leads tab_ok (fun ar os r ha hr => ?_) ⟨Try.f81, rfl, by decide, rfl⟩
  replace hr : r81 (tcp_GetF check_Right ipfour_Pseudo tcp_List tcp_parsed) ar (conts os) = some r := hr
  unfold r81 at hr
  generalize hc : conts os = C at hr
  replace hr := dV.elim hr; obtain ⟨v0, l1, y0, rfl, e0, hr⟩ := hr; obtain rfl := asS_eq _ _ e0
  replace hr := dV.elim hr; obtain ⟨v1, l2, y1, rfl, e1, hr⟩ := hr; obtain rfl := uvapi_Addr_eq _ _ e1
  replace hr := dV.elim hr; obtain ⟨v2, l3, y2, rfl, e2, hr⟩ := hr; obtain rfl := uvapi_Addr_eq _ _ e2
  replace hr := dFin hr; obtain ⟨rfl, rfl, x, h, rfl⟩ := hr
  obtain rfl := kinds_nil hc
  exact ⟨_, rfl, leads81 check_Right ipfour_Pseudo tcp_List tcp_parsed hS _ _ _ x h⟩
def tcp_Get : (List UInt8) → api_Addr → api_Addr → Option (tcp_Head × (List UInt8) × Int) := tcp_GetF check_Right ipfour_Pseudo tcp_List tcp_parsed
theorem lift81 : SumOK Try.prog 81 (s81 tcp_Get) := ok81 check_Right ipfour_Pseudo tcp_List tcp_parsed (SumsOK.of_tab ⟨lift101, lift46, lift91, lift102, trivial⟩)
def R07_numF (R02_Put : Int → Int → Option (List UInt8)) (n : Int) (k : Int) : Option (List UInt8) :=
  (R02_Put (wI .u64 n) k).bind fun p =>
  some (p)
def rx33 (x : List UInt8) : SRes := ⟨.string ⟨⟨x⟩⟩, [], []⟩
def r33 (g : Int → Int → Option (List UInt8)) : Dec := dV (asI .i64) fun (y0 : Int) => dV (asI .i64) fun (y1 : Int) => dEnd (ofG (g y0 y1) rx33)
theorem r33_c {g : Int → Int → Option (List UInt8)} {y0 : Int} {y1 : Int} {x : List UInt8} (hx : g y0 y1 = some x) : r33 g [.int .i64 y0, .int .i64 y1] [] = some (rx33 x) := (dV_eq (asI_c _)).trans ((dV_eq (asI_c _)).trans (ofG_eq hx))
def s33 (g : Int → Int → Option (List UInt8)) : Summ := ⟨[.v, .v], r33 g⟩
theorem r33_eq {g : Int → Int → Option (List UInt8)} {y0 : Int} {y1 : Int} {x : List UInt8} (hx : g y0 y1 = some x) : (s33 g).run [.int .i64 y0, .int .i64 y1] [] = some (rx33 x) := r33_c hx
abbrev sums33 (R02_Put : Int → Int → Option (List UInt8)) : List (Nat × Summ) := [(24, s24 R02_Put)]
theorem leads33 (R02_Put : Int → Int → Option (List UInt8)) (hS : SumsOK Try.prog (aget (sums33 R02_Put))) (n : Int) (k : Int) (res : List UInt8) (h : R07_numF R02_Put n k = some res) :
    Leads Try.prog 33 0 ⟨⟨33, 9, [(0, .int .i64 n), (1, .int .i64 k)], [.code k33_3], [], false, none⟩, [], [], 0⟩ (fun v H _ => Res 0 (rx33 res) v H) := by
  unfold R07_numF at h
  refine ev_ok tab_ok hS true 3000 ?_
  conv => whnf
  replace h := obind.elim h; obtain ⟨p, hy, h⟩ := h
  refine sumK.q rfl rfl (r24_eq hy) rfl rfl rfl ?_
  conv => whnf
  all_goals (cases h; exact Res.z rfl rfl rfl)
theorem ok33 (R02_Put : Int → Int → Option (List UInt8)) (hS : SumsOK Try.prog (aget (sums33 R02_Put))) : SumOK Try.prog 33 (s33 (R07_numF R02_Put)) := by
  refine SumOK.of_leads tab_ok (fun ar os r ha hr => ?_) ⟨Try.f33, rfl, by decide, rfl⟩
  replace hr : r33 (R07_numF R02_Put) ar (conts os) = some r := hr
  unfold r33 at hr
  generalize hc : conts os = C at hr
  replace hr := dV.elim hr; obtain ⟨v0, l1, y0, rfl, e0, hr⟩ := hr; obtain rfl := asI_eq _ _ _ e0
  replace hr := dV.elim hr; obtain ⟨v1, l2, y1, rfl, e1, hr⟩ := hr; obtain rfl := asI_eq _ _ _ e1
  replace hr := dFin hr; obtain ⟨rfl, rfl, x, h, rfl⟩ := hr
  obtain rfl := kinds_nil hc
  exact ⟨_, rfl, leads33 R02_Put hS _ _ x h⟩
def R07_num : Int → Int → Option (List UInt8) := R07_numF R02_Put
theorem lift33 : SumOK Try.prog 33 (s33 R07_num) := ok33 R02_Put (SumsOK.of_tab ⟨lift24, trivial⟩)
end Go.Vm.Code
namespace Go.Vm.Code
open Go Go.Vm
def H7 (h : tcp_Head) : Bool := inR h.SPort 65535 && inR h.DPort 65535 && inR h.Window 65535 && inR h.Urgent 65535 && inR h.Flags 255 && decide (h.Options.length % 4 = 0) && decide (h.Options.length ≤ 40)
theorem H7_inv {h : tcp_Head} (hh : H7 h = true) : (0 ≤ h.SPort ∧ h.SPort ≤ 65535) ∧ (0 ≤ h.DPort ∧ h.DPort ≤ 65535) ∧ (0 ≤ h.Window ∧ h.Window ≤ 65535) ∧ (0 ≤ h.Urgent ∧ h.Urgent ≤ 65535) ∧ (0 ≤ h.Flags ∧ h.Flags ≤ 255) ∧ h.Options.length % 4 = 0 ∧ h.Options.length ≤ 40 := by
  unfold H7 at hh
  simp only [Bool.and_eq_true, inR_iff, decide_eq_true_eq] at hh
  obtain ⟨⟨⟨⟨⟨⟨a, b⟩, c⟩, d⟩, e⟩, f⟩, g⟩ := hh
  exact ⟨a, b, c, d, e, f, g⟩
def W7 (h : tcp_Head) : Prop := (0 ≤ h.Seq ∧ h.Seq < 4294967296) ∧ 0 ≤ h.Ack ∧ h.Ack < 4294967296
def ha7 (h : tcp_Head) : List UInt8 := be h.SPort.toNat 2 ++ be h.DPort.toNat 2 ++ be h.Seq.toNat 4 ++ be h.Ack.toNat 4 ++ be (4 * (20 + h.Options.length)) 1 ++ be h.Flags.toNat 1 ++ be h.Window.toNat 2
def hc7 (h : tcp_Head) (c : Nat) : List UInt8 := ha7 h ++ (be c 2 ++ (be h.Urgent.toNat 2 ++ h.Options))
theorem ha7_len (h : tcp_Head) : (ha7 h).length = 16 := by simp [ha7]
theorem hc7_len (h : tcp_Head) (c : Nat) : (hc7 h c).length = 20 + h.Options.length := by simp [hc7, ha7_len]; omega
theorem hc7_app (h : tcp_Head) (c : Nat) (l : List UInt8) : hc7 h c ++ l = ha7 h ++ (be c 2 ++ (be h.Urgent.toNat 2 ++ (h.Options ++ l))) := by simp only [hc7, List.append_assoc]
def ck7 (p : List UInt8) (h : tcp_Head) (l : List UInt8) : Nat := ckN (wsum (p ++ (hc7 h 0 ++ l)))
theorem ck7_sum {p : List UInt8} (hp : p.length % 2 = 0) (h : tcp_Head) (l : List UInt8) {c : Nat} (hc : c < 65536) : wsum (p ++ (hc7 h c ++ l)) = wsum (p ++ (hc7 h 0 ++ l)) + c := by
  have e : ∀ x, p ++ (hc7 h x ++ l) = (p ++ ha7 h) ++ (be x 2 ++ (be h.Urgent.toNat 2 ++ (h.Options ++ l))) := fun x => by rw [hc7_app, List.append_assoc]
  rw [e, e, wsum_mid (by rw [List.length_append, ha7_len]; omega) hc]
theorem ck7_ok {p : List UInt8} (hp : p.length % 2 = 0) (h : tcp_Head) (l : List UInt8) : ck7 p h l ≤ 65535 ∧ wsum (p ++ (hc7 h (ck7 p h l) ++ l)) % 65535 = 0 ∧ wsum (p ++ (hc7 h (ck7 p h l) ++ l)) ≠ 0 := by
  have := ckN_ok (wsum (p ++ (hc7 h 0 ++ l)))
  rw [ck7_sum hp h l (by unfold ck7; omega)]
  exact this
def put7 (h : tcp_Head) (src dst : api_Addr) (l : List UInt8) : List UInt8 × Int :=
  if H7 h = false then ([], 1) else if pseu src dst 6 (20 + h.Options.length + l.length) = [] then ([], 1) else if 65535 - (20 + (h.Options.length : Int)) < l.length then ([], 5) else
    (hc7 h (ck7 (pseu src dst 6 (20 + h.Options.length + l.length)) h l) ++ l, 0)
def zero7 : tcp_Head := ⟨0, 0, 0, 0, 0, 0, 0, []⟩
def get7 (s : List UInt8) (src dst : api_Addr) : tcp_Head × List UInt8 × Int :=
  if s.length < 20 then (zero7, [], 2) else if 4 * (vK s 12 1 / 16) < 20 then (zero7, [], 3) else if vK s 12 1 % 16 ≠ 0 then (zero7, [], 3) else if (s.length : Int) < 4 * (vK s 12 1 / 16) then (zero7, [], 2) else
    if pseu src dst 6 s.length = [] then (zero7, [], 1) else if norm (wsum (pseu src dst 6 s.length ++ s)) ≠ 65535 then (zero7, [], 4) else
      if (opt7 ((s.drop 20).take ((4 * (vK s 12 1 / 16)).toNat - 20))).2 ≠ 0 then (zero7, [], (opt7 ((s.drop 20).take ((4 * (vK s 12 1 / 16)).toNat - 20))).2) else
      (⟨vK s 0 2, vK s 2 2, vK s 4 4, vK s 8 4, vK s 13 1, vK s 14 2, vK s 18 2, (s.drop 20).take ((4 * (vK s 12 1 / 16)).toNat - 20)⟩, s.drop (4 * (vK s 12 1 / 16)).toNat, 0)
theorem put7_fin {p t : List UInt8} {A B : List UInt8} (ht : t = A ++ (be 0 2 ++ B)) (hA : A.length = 16) (hl : p.length < 2 ^ 30) (hl2 : t.length < 2 ^ 30) : ((check_Of (p ++ t)).bind fun xo => (check_Set t 16 2 (wI .u64 xo)).bind fun s => some (s, (0 : Int))) = some (A ++ (be (ckN (wsum (p ++ t))) 2 ++ B), 0) := by
  have n := norm_le (wsum (p ++ t))
  rw [Of_eq (by rw [List.length_append]; omega), Option.bind_some, wU64 (by omega) (by omega), Set_eq (by omega) (by omega), Option.bind_some]
  have := setS_mid (A := A) (B := B) (p := 16) (c := 65535 - ((norm (wsum (p ++ t)) : Nat) : Int)) hA
  rw [← ht] at this
  rw [show ((16 : Nat) : Int) = 16 from rfl] at this
  rw [this]
  unfold ckN
  rw [show (65535 - ((norm (wsum (p ++ t)) : Nat) : Int)).toNat = 65535 - norm (wsum (p ++ t)) by omega]
theorem twithin_eq {m : Int} {l : List Int} (h : l.length < 2 ^ 20) : tcp_within m l = some (l.all fun x => inR x m) := by
  unfold tcp_within tcp_withinF
  have key := iter_eq (step := fun st => tcp_within_s1 m l st) (fun st => (l.drop st.toNat).all fun x => inR x m) (fun st => 0 ≤ st ∧ st ≤ l.length) (fun st => ((l.length : Int) - st).toNat) ?_ FUEL 0 ⟨by omega, by omega⟩ (by rw [FUEL_eq]; omega)
  · rw [key]; simp
  intro st ⟨g1, g2⟩
  obtain ⟨i, rfl⟩ := Int.eq_ofNat_of_zero_le g1
  unfold tcp_within_s1
  simp only [Int.toNat_natCast]
  by_cases hp : i < l.length
  · have ed : l.drop i = l[i] :: l.drop (i + 1) := List.drop_eq_getElem_cons hp
    rw [cond_p (by omega), oreq_p (by omega), List.getElem?_eq_getElem hp, Option.bind_some]
    by_cases hb : l[i] < 0
    · refine .inl ?_
      rw [cond_p hb, ed, List.all_cons, show inR l[i] m = false by unfold inR; simp; omega, Bool.false_and]
    by_cases hc : l[i] > m
    · refine .inl ?_
      rw [cond_n hb, cond_p hc, ed, List.all_cons, show inR l[i] m = false by unfold inR; simp; omega, Bool.false_and]
    · refine .inr ⟨((i + 1 : Nat) : Int), ?_, ⟨by omega, by omega⟩, by omega, ?_⟩
      · rw [cond_n hb, cond_n hc, wI64 (by omega) (by omega)]; rfl
      · rw [Int.toNat_natCast, ed, List.all_cons, show inR l[i] m = true by unfold inR; simp; omega, Bool.true_and]
  · refine .inl ?_
    rw [cond_n (by omega), List.drop_of_length_le (by omega)]; rfl
theorem may7_eq (h : tcp_Head) : tcp_Head_may h = some (H7 h) := by
  unfold tcp_Head_may tcp_Head_mayF H7
  rw [twithin_eq (by simp), twithin_eq (by simp)]
  simp only [Option.bind_some, opt_mod, opt_le, List.all_cons, List.all_nil, Bool.and_true]
  cases inR h.SPort 65535 <;> cases inR h.DPort 65535 <;> cases inR h.Window 65535 <;> cases inR h.Urgent 65535 <;> cases inR h.Flags 255 <;> cases decide (h.Options.length % 4 = 0) <;> rfl
theorem put4 (n : Int) : putS n 4 = be n.toNat 4 := putS_be (k := 4) (by omega)
theorem put8' (n : Int) : putS n 8 = be n.toNat 8 := putS_be (k := 8) (by omega)
theorem put2' (n : Int) : putS n 2 = be n.toNat 2 := putS_be (k := 2) (by omega)
theorem laid7_eq {h : tcp_Head} (hh : H7 h = true) (hw : W7 h) : tcp_Head_laid h = some (hc7 h 0) := by
  obtain ⟨q1, q2, q3, q4, q5, q6, q7⟩ := H7_inv hh
  obtain ⟨w1, w2⟩ := hw
  unfold tcp_Head_laid tcp_Head_laidF
  obtain ⟨sp, hsp⟩ := Int.eq_ofNat_of_zero_le q1.1
  obtain ⟨dp, hdp⟩ := Int.eq_ofNat_of_zero_le q2.1
  obtain ⟨wi, hwi⟩ := Int.eq_ofNat_of_zero_le q3.1
  obtain ⟨ur, hur⟩ := Int.eq_ofNat_of_zero_le q4.1
  obtain ⟨fl, hfl⟩ := Int.eq_ofNat_of_zero_le q5.1
  obtain ⟨sq, hsq⟩ := Int.eq_ofNat_of_zero_le w1.1
  obtain ⟨ak, hak⟩ := Int.eq_ofNat_of_zero_le w2.1
  rw [hsp] at q1; rw [hdp] at q2; rw [hwi] at q3; rw [hur] at q4; rw [hfl] at q5; rw [hsq] at w1; rw [hak] at w2
  rw [hsp, hdp, hwi, hur, hfl, hsq, hak]
  have e1 : iorI .u64 (wI .u64 ((wI .u64 (sp : Int)) * 2 ^ 16)) (wI .u64 (dp : Int)) = ((sp * 65536 + dp : Nat) : Int) := by
    rw [wU64 (n := (sp : Int)) (by omega) (by omega), wU64 (n := (dp : Int)) (by omega) (by omega), wU64 (n := (sp : Int) * 2 ^ 16) (by omega) (by omega), iorU64_low 16 (by omega) (by omega) (by omega) (by omega) (by omega)]; omega
  have e2 : iorI .u64 (wI .u64 ((wI .u64 (sq : Int)) * 2 ^ 32)) (wI .u64 (ak : Int)) = ((sq * 4294967296 + ak : Nat) : Int) := by
    rw [wU64 (n := (sq : Int)) (by omega) (by omega), wU64 (n := (ak : Int)) (by omega) (by omega), wU64 (n := (sq : Int) * 2 ^ 32) (by omega) (by omega), iorU64_low 32 (by omega) (by omega) (by omega) (by omega) (by omega)]; omega
  have e3 : iorI .u64 (wI .u64 ((wI .u64 ((wI .u64 (wI .i64 (20 + (h.Options.length : Int)))).tdiv 4)) * 2 ^ 12)) (wI .u64 (fl : Int)) = ((4 * (20 + h.Options.length) * 256 + fl : Nat) : Int) := by
    rw [wI64 (n := 20 + (h.Options.length : Int)) (by omega) (by omega), wU64 (n := 20 + (h.Options.length : Int)) (by omega) (by omega), tdiv4, wU64 (n := (((20 + h.Options.length) / 4 : Nat) : Int)) (by omega) (by omega), wU64 (n := (fl : Int)) (by omega) (by omega), wU64 (n := (((20 + h.Options.length) / 4 : Nat) : Int) * 2 ^ 12) (by omega) (by omega), iorU64_low 12 (by omega) (by omega) (by omega) (by omega) (by omega)]; omega
  simp only [e1, e2, e3]
  have k1 : octet_Put ((sp * 65536 + dp : Nat) : Int) 4 = some (be sp 2 ++ be dp 2) := by
    rw [octet_Put_eq (by omega), put4, Int.toNat_natCast, be_two _ _ (by omega)]
  have k2 : octet_Put ((sq * 4294967296 + ak : Nat) : Int) 8 = some (be sq 4 ++ be ak 4) := by
    rw [octet_Put_eq (by omega), put8', Int.toNat_natCast, be_four _ _ (by omega)]
  have k3 : octet_Put ((4 * (20 + h.Options.length) * 256 + fl : Nat) : Int) 2 = some (be (4 * (20 + h.Options.length)) 1 ++ be fl 1) := by
    rw [octet_Put_eq (by omega), put2', Int.toNat_natCast, be_one _ _ (by omega)]
  have k4 : octet_Put (wI .u64 (wi : Int)) 2 = some (be wi 2) := by
    rw [wU64 (by omega) (by omega), octet_Put_eq (by omega), put2', Int.toNat_natCast]
  have k5 : octet_Put (wI .u64 (ur : Int)) 4 = some (be 0 2 ++ be ur 2) := by
    have := be_two 0 ur (by omega)
    rw [Nat.zero_mul, Nat.zero_add] at this
    rw [wU64 (by omega) (by omega), octet_Put_eq (by omega), put4, Int.toNat_natCast, this]
  rw [k1, Option.bind_some, k2, Option.bind_some, k3, Option.bind_some, k4, Option.bind_some, k5, Option.bind_some]
  rw [oreq_p (by simp), oreq_p (by simp), oreq_p (by simp), oreq_p (by simp), oreq_p (by simp; omega)]
  unfold hc7 ha7
  rw [hsp, hdp, hwi, hur, hfl, hsq, hak]
  simp only [Int.toNat_natCast, List.append_assoc]
theorem t7put_eq {h : tcp_Head} {src dst : api_Addr} {l : List UInt8} (hw : W7 h) (h1 : A4 src) (h2 : A4 dst) (hl : l.length < 2 ^ 20) (ho : h.Options.length < 2 ^ 20) : tcp_Put h src dst l = some (put7 h src dst l) := by
  unfold tcp_Put tcp_PutF put7
  simp only []
  rw [wI64 (n := 20 + (h.Options.length : Int)) (by omega) (by omega), wI64 (n := 20 + (h.Options.length : Int) + l.length) (by omega) (by omega), pseudo_eq h1 h2 (by omega) (by omega), Option.bind_some, may7_eq, Option.bind_some]
  have hp := pseu_len src dst 6 (20 + (h.Options.length : Int) + l.length)
  generalize pseu src dst 6 (20 + (h.Options.length : Int) + l.length) = p at *
  cases hh : H7 h
  · rfl
  rw [Bool.not_true, cond_false, if_neg (by decide)]
  by_cases e3 : p = []
  · subst e3; rfl
  rw [show (p == []) = false by simpa using e3, cond_false, if_neg e3, wI64 (n := 65535 - (20 + (h.Options.length : Int))) (by omega) (by omega)]
  by_cases h5 : (l.length : Int) > 65535 - (20 + (h.Options.length : Int))
  · rw [cond_p h5, if_pos (by omega)]
  rw [cond_n h5, if_neg (by omega), laid7_eq hh hw, Option.bind_some]
  have hlen := hc7_len h 0
  rw [oreq_p (by omega), oreq_p (by simp only [List.length_append]; omega)]
  have := put7_fin (p := p) (t := hc7 h 0 ++ l) (hc7_app h 0 l) (ha7_len h) (by omega) (by simp only [List.length_append]; omega)
  rw [this]
  unfold ck7
  rw [hc7_app h (ckN _) l]
theorem parsed7_eq {s : List UInt8} {n : Nat} (hs : s.length < 2 ^ 38) (h20 : 20 ≤ n) (hn : n ≤ s.length) : tcp_parsed s (n : Int) = some ⟨vK s 0 2, vK s 2 2, vK s 4 4, vK s 8 4, vK s 13 1, vK s 14 2, vK s 18 2, (s.drop 20).take (n - 20)⟩ := by
  unfold tcp_parsed tcp_parsedF
  have N : ∀ (p k : Nat), 1 ≤ k → k ≤ 7 → p + k ≤ 20 → octet_Reader_Num ⟨s.drop p, true, false⟩ (k : Int) = some (vK s p k, ⟨s.drop (p + k), true, false⟩) := fun p k a b c => num_at a b (by omega) (by omega)
  have N0 : octet_Reader_Num ⟨s, true, false⟩ 2 = some (vK s 0 2, ⟨s.drop 2, true, false⟩) := N 0 2 (by omega) (by omega) (by omega)
  have N2 : octet_Reader_Num ⟨s.drop 2, true, false⟩ 2 = some (vK s 2 2, ⟨s.drop 4, true, false⟩) := N 2 2 (by omega) (by omega) (by omega)
  have N4 : octet_Reader_Num ⟨s.drop 4, true, false⟩ 4 = some (vK s 4 4, ⟨s.drop 8, true, false⟩) := N 4 4 (by omega) (by omega) (by omega)
  have N8 : octet_Reader_Num ⟨s.drop 8, true, false⟩ 4 = some (vK s 8 4, ⟨s.drop 12, true, false⟩) := N 8 4 (by omega) (by omega) (by omega)
  have N12 : octet_Reader_Num ⟨s.drop 12, true, false⟩ 2 = some (vK s 12 2, ⟨s.drop 14, true, false⟩) := N 12 2 (by omega) (by omega) (by omega)
  have N14 : octet_Reader_Num ⟨s.drop 14, true, false⟩ 2 = some (vK s 14 2, ⟨s.drop 16, true, false⟩) := N 14 2 (by omega) (by omega) (by omega)
  have N16 : octet_Reader_Num ⟨s.drop 16, true, false⟩ 2 = some (vK s 16 2, ⟨s.drop 18, true, false⟩) := N 16 2 (by omega) (by omega) (by omega)
  have N18 : octet_Reader_Num ⟨s.drop 18, true, false⟩ 2 = some (vK s 18 2, ⟨s.drop 20, true, false⟩) := N 18 2 (by omega) (by omega) (by omega)
  have r4 := vK_rng s 4 4 4294967296 (by decide)
  have r8 := vK_rng s 8 4 4294967296 (by decide)
  have r12 := vK_rng s 12 2 65536 (by decide)
  rw [rNew_eq, Option.bind_some, N0, Option.bind_some]
  simp only []
  rw [N2, Option.bind_some]
  simp only []
  rw [N4, Option.bind_some]
  simp only []
  rw [N8, Option.bind_some]
  simp only []
  rw [N12, Option.bind_some]
  simp only []
  rw [N14, Option.bind_some]
  simp only []
  rw [N16, Option.bind_some]
  simp only []
  rw [N18, Option.bind_some]
  simp only []
  rw [wI64 (n := (n : Int) - 20) (by omega) (by omega), show (n : Int) - 20 = ((n - 20 : Nat) : Int) by omega, text_at (by omega), Option.bind_some, wU32 r4.1 r4.2, wU32 r8.1 r8.2, andI64_mask 8 (by decide) (by omega) (by omega) (by omega)]
  have e12 : vK s 12 2 = (s[12].toNat * 256 + s[13].toNat : Int) := vK_two (s := s) (p := 12) (by omega)
  have e13 := vK_one (s := s) (p := 13) (by omega)
  have b13 := s[13].toNat_lt
  rw [show vK s 12 2 % 2 ^ 8 = vK s 13 1 by rw [e12, e13]; omega]
theorem and15 : ∀ x : Fin 256, andI .u8 ((x.val : Nat) : Int) 15 = ((x.val : Nat) : Int) % 16 := by decide +kernel
theorem t7get_eq {s : List UInt8} {src dst : api_Addr} (h1 : A4 src) (h2 : A4 dst) (hs : s.length < 2 ^ 19) : tcp_Get s src dst = some (get7 s src dst) := by
  unfold tcp_Get tcp_GetF get7
  have hz : (⟨0, 0, 0, 0, 0, 0, 0, []⟩ : tcp_Head) = zero7 := rfl
  rw [hz]
  by_cases h0 : s.length < 20
  · rw [cond_p (by omega), if_pos h0]
  rw [cond_n (by omega), if_neg h0, List.getElem?_eq_getElem (show 12 < s.length by omega)]
  have e12 := vK_one (s := s) (p := 12) (by omega)
  have r12 := vK_rng s 12 1 256 (by decide)
  have hb := s[12].toNat_lt
  simp only [Option.bind_some]
  rw [← e12, fdivP, show ((2 : Int) ^ 4) = 16 from rfl, wI64 (n := vK s 12 1 / 16) (by omega) (by omega), wI64 (n := 4 * (vK s 12 1 / 16)) (by omega) (by omega)]
  have ea : andI .u8 (vK s 12 1) 15 = vK s 12 1 % 16 := by
    rw [e12]; exact and15 ⟨s[12].toNat, hb⟩
  rw [ea]
  obtain ⟨t, ht⟩ := Int.eq_ofNat_of_zero_le (show 0 ≤ 4 * (vK s 12 1 / 16) by omega)
  rw [ht]
  simp only [Int.toNat_natCast]
  by_cases g2 : (t : Int) < 20
  · rw [cond_p g2, if_pos g2]
  rw [cond_n g2, if_neg g2]
  by_cases g3 : vK s 12 1 % 16 = 0
  · rw [show (vK s 12 1 % 16 != 0) = false by simpa using g3, cond_false, if_neg (by simpa using g3)]
    by_cases g4 : (s.length : Int) < t
    · rw [cond_p (by omega), if_pos g4]
    rw [cond_n (by omega), if_neg g4, pseudo_eq h1 h2 (by omega) (by omega), Option.bind_some]
    have hp := pseu_len src dst 6 (s.length : Int)
    generalize pseu src dst 6 (s.length : Int) = p at *
    by_cases e3 : p = []
    · subst e3; rfl
    rw [show (p == []) = false by simpa using e3, cond_false, if_neg e3, oreq_p (by omega), Right_eq (by simp only [List.length_append]; omega), Option.bind_some]
    by_cases g5 : norm (wsum (p ++ s)) = 65535
    · rw [if_neg (by simpa using g5), g5, show ((((65535 : Nat) : Int) == 65535)) = true from rfl, Bool.not_true, cond_false, parsed7_eq (by omega) (by omega) (by omega), Option.bind_some, t7_eq (by simp; omega), Option.bind_some]
      by_cases g6 : (opt7 ((s.drop 20).take (t - 20))).2 = 0
      · rw [if_neg (by simpa using g6)]
        simp only [g6, bne_self_eq_false, cond_false]
        rw [oreq_p (by omega), List.take_of_length_le (i := s.length - t) (by simp)]
      · rw [if_pos (by simpa using g6), show ((opt7 ((s.drop 20).take (t - 20))).2 != 0) = true by simpa using g6]; rfl
    · rw [if_pos (by simpa using g5), show ((((norm (wsum (p ++ s)) : Nat) : Int) == 65535)) = false by simp; omega]; rfl
  · rw [show (vK s 12 1 % 16 != 0) = true by simpa using g3, cond_true, if_pos (by simpa using g3)]
end Go.Vm.Code
namespace Go.Vm.Code
open Go Go.Vm Go.Proofs
set_option maxRecDepth 100000
set_option maxHeartbeats 4000000
set_option linter.unusedVariables false
end Go.Vm.Code
namespace Go.Vm.Code
open Go Go.Vm
theorem rdr_len_le (r : octet_Reader) (k : Int) : (rdr r k).s.length ≤ r.s.length := by unfold rdr; split <;> simp
def b1 (s : List UInt8) (i : Nat) : Nat := valL ((s.drop i).take 1)
theorem b1_lt (s : List UInt8) (i : Nat) : b1 s i < 256 := val_take_lt _ (by decide)
end Go.Vm.Code
namespace Go.Vm.Code
open Go Go.Vm Go.Proofs
set_option maxRecDepth 100000
set_option maxHeartbeats 4000000
set_option linter.unusedVariables false
def udp_GetF (check_Right : (List UInt8) → Option Bool) (ipfour_Pseudo : api_Addr → api_Addr → Int → Int → Option (List UInt8)) (octet_New : (List UInt8) → Option octet_Reader) (octet_Reader_Bad : octet_Reader → Option (Bool × octet_Reader)) (octet_Reader_Num : octet_Reader → Int → Option (Int × octet_Reader)) (s : List UInt8) (src : api_Addr) (dst : api_Addr) : Option (udp_Head × (List UInt8) × Int) :=
  (octet_New s).bind fun n =>
  (octet_Reader_Num n 2).bind fun n1 =>
  (octet_Reader_Num n1.2 2).bind fun n2 =>
  (octet_Reader_Num n2.2 2).bind fun n3 =>
  (octet_Reader_Num n3.2 2).bind fun n4 =>
  (octet_Reader_Bad n4.2).bind fun b =>
  cond (b.1)
    (
    some ((udp_Head.mk 0 0, [], 2)))
    (
    cond (decide (n3.1 < 8))
      (
      some ((udp_Head.mk 0 0, [], 3)))
      (
      cond (decide (n3.1 > (s.length : Int)))
        (
        some ((udp_Head.mk 0 0, [], 2)))
        (
        (ipfour_Pseudo src dst 17 n3.1).bind fun p =>
        cond (p == [])
          (
          some ((udp_Head.mk 0 0, [], 1)))
          (
          cond (n4.1 == 0)
            (
            cond (src.V6)
              (
              some ((udp_Head.mk 0 0, [], 4)))
              (
              cond (n4.1 != 0)
                (
                oreq (decide ((0 : Int) ≤ n3.1 ∧ n3.1 ≤ (s.length : Int))) <|
                oreq (decide (p.length + (s.take n3.1.toNat).length < 2 ^ 63)) <|
                (check_Right (p ++ (s.take n3.1.toNat))).bind fun xr =>
                cond (!xr)
                  (
                  some ((udp_Head.mk 0 0, [], 4)))
                  (
                  oreq (decide ((0 : Int) ≤ n3.1 ∧ n3.1 ≤ (s.length : Int) ∧ (0 : Int) ≤ (8 : Int) ∧ (8 : Int) ≤ (n3.1.toNat : Int))) <|
                  some ((udp_Head.mk n1.1 n2.1, (s.drop 8).take (n3.1.toNat - 8), 0))))
                (
                oreq (decide ((0 : Int) ≤ n3.1 ∧ n3.1 ≤ (s.length : Int) ∧ (0 : Int) ≤ (8 : Int) ∧ (8 : Int) ≤ (n3.1.toNat : Int))) <|
                some ((udp_Head.mk n1.1 n2.1, (s.drop 8).take (n3.1.toNat - 8), 0)))))
            (
            cond (n4.1 != 0)
              (
              oreq (decide ((0 : Int) ≤ n3.1 ∧ n3.1 ≤ (s.length : Int))) <|
              oreq (decide (p.length + (s.take n3.1.toNat).length < 2 ^ 63)) <|
              (check_Right (p ++ (s.take n3.1.toNat))).bind fun xr1 =>
              cond (!xr1)
                (
                some ((udp_Head.mk 0 0, [], 4)))
                (
                oreq (decide ((0 : Int) ≤ n3.1 ∧ n3.1 ≤ (s.length : Int) ∧ (0 : Int) ≤ (8 : Int) ∧ (8 : Int) ≤ (n3.1.toNat : Int))) <|
                some ((udp_Head.mk n1.1 n2.1, (s.drop 8).take (n3.1.toNat - 8), 0))))
              (
              oreq (decide ((0 : Int) ≤ n3.1 ∧ n3.1 ≤ (s.length : Int) ∧ (0 : Int) ≤ (8 : Int) ∧ (8 : Int) ≤ (n3.1.toNat : Int))) <|
              some ((udp_Head.mk n1.1 n2.1, (s.drop 8).take (n3.1.toNat - 8), 0))))))))
def rx82 (x : udp_Head × (List UInt8) × Int) : SRes := ⟨.tuple ⟨[.agg ⟨[.int .i64 x.1.SPort, .int .i64 x.1.DPort]⟩, .string ⟨⟨x.2.1⟩⟩, .int .i64 x.2.2]⟩, [], []⟩
def r82 (g : (List UInt8) → api_Addr → api_Addr → Option (udp_Head × (List UInt8) × Int)) : Dec := dV asS fun (y0 : List UInt8) => dV uvapi_Addr fun (y1 : api_Addr) => dV uvapi_Addr fun (y2 : api_Addr) => dEnd (ofG (g y0 y1 y2) rx82)
theorem r82_c {g : (List UInt8) → api_Addr → api_Addr → Option (udp_Head × (List UInt8) × Int)} {y0 : List UInt8} {y1 : api_Addr} {y2 : api_Addr} {x : udp_Head × (List UInt8) × Int} (hx : g y0 y1 y2 = some x) : r82 g [.string ⟨⟨y0⟩⟩, .agg ⟨[.bool y1.V6, .int .u64 y1.Hi, .int .u64 y1.Lo]⟩, .agg ⟨[.bool y2.V6, .int .u64 y2.Hi, .int .u64 y2.Lo]⟩] [] = some (rx82 x) := (dV_eq (asS_c)).trans ((dV_eq (uvapi_Addr_c _)).trans ((dV_eq (uvapi_Addr_c _)).trans (ofG_eq hx)))
def s82 (g : (List UInt8) → api_Addr → api_Addr → Option (udp_Head × (List UInt8) × Int)) : Summ := ⟨[.v, .v, .v], r82 g⟩
theorem r82_eq {g : (List UInt8) → api_Addr → api_Addr → Option (udp_Head × (List UInt8) × Int)} {y0 : List UInt8} {y1 : api_Addr} {y2 : api_Addr} {x : udp_Head × (List UInt8) × Int} (hx : g y0 y1 y2 = some x) : (s82 g).run [.string ⟨⟨y0⟩⟩, .agg ⟨[.bool y1.V6, .int .u64 y1.Hi, .int .u64 y1.Lo]⟩, .agg ⟨[.bool y2.V6, .int .u64 y2.Hi, .int .u64 y2.Lo]⟩] [] = some (rx82 x) := r82_c hx
abbrev sums82 (check_Right : (List UInt8) → Option Bool) (ipfour_Pseudo : api_Addr → api_Addr → Int → Int → Option (List UInt8)) (octet_New : (List UInt8) → Option octet_Reader) (octet_Reader_Bad : octet_Reader → Option (Bool × octet_Reader)) (octet_Reader_Num : octet_Reader → Int → Option (Int × octet_Reader)) : List (Nat × Summ) := [(101, s101 check_Right), (46, s46 ipfour_Pseudo), (103, s103 octet_New), (105, s105 octet_Reader_Bad), (104, s104 octet_Reader_Num)]
theorem leads82 (check_Right : (List UInt8) → Option Bool) (ipfour_Pseudo : api_Addr → api_Addr → Int → Int → Option (List UInt8)) (octet_New : (List UInt8) → Option octet_Reader) (octet_Reader_Bad : octet_Reader → Option (Bool × octet_Reader)) (octet_Reader_Num : octet_Reader → Int → Option (Int × octet_Reader)) (hS : SumsOK Try.prog (aget (sums82 check_Right ipfour_Pseudo octet_New octet_Reader_Bad octet_Reader_Num))) (s : List UInt8) (src : api_Addr) (dst : api_Addr) (res : udp_Head × (List UInt8) × Int) (h : udp_GetF check_Right ipfour_Pseudo octet_New octet_Reader_Bad octet_Reader_Num s src dst = some res) :
    Leads Try.prog 82 0 ⟨⟨82, 70, [(0, .string ⟨⟨s⟩⟩), (1, .agg ⟨[.bool src.V6, .int .u64 src.Hi, .int .u64 src.Lo]⟩), (2, .agg ⟨[.bool dst.V6, .int .u64 dst.Hi, .int .u64 dst.Lo]⟩)], [.code k82_43], [], false, none⟩, [], [], 0⟩ (fun v H _ => Res 0 (rx82 res) v H) := by
  unfold udp_GetF at h
  refine ev_ok tab_ok hS true 3000 ?_
  conv => whnf
  replace h := obind.elim h; obtain ⟨n, hy, h⟩ := h
  refine sumK.introF [3] (sumRun_of (aqs := [.string ⟨⟨s⟩⟩]) (ws := []) (n := 1) (m := 0) (t' := 4) (ra_cons rfl rfl ra_nil) rfl (by rfl) (r103_eq hy) rfl rfl rfl rfl wb_nil (an_cons (rfl) an_nil) rfl) ?_
  conv => whnf
  replace h := obind.elim h; obtain ⟨n1, hy, h⟩ := h
  refine sumK.introF [3] (sumRun_of (aqs := [.pointer (some ⟨0, 0, none⟩), .int .i64 2]) (ws := [.win 3 0 3 true]) (n := 0) (m := 0) (t' := 4) (ra_cons rfl rfl (ra_cons rfl rfl ra_nil)) rfl (by rfl) (r104_eq hy) rfl rfl rfl rfl (wb_win rfl rfl rfl ⟨rfl, Nat.le_of_ble_eq_true rfl⟩ rfl rfl wb_nil) an_nil rfl) ?_
  conv => whnf
  replace h := obind.elim h; obtain ⟨n2, hy, h⟩ := h
  refine sumK.introF [3] (sumRun_of (aqs := [.pointer (some ⟨0, 0, none⟩), .int .i64 2]) (ws := [.win 3 0 3 true]) (n := 0) (m := 0) (t' := 4) (ra_cons rfl rfl (ra_cons rfl rfl ra_nil)) rfl (by rfl) (r104_eq hy) rfl rfl rfl rfl (wb_win rfl rfl rfl ⟨rfl, Nat.le_of_ble_eq_true rfl⟩ rfl rfl wb_nil) an_nil rfl) ?_
  conv => whnf
  replace h := obind.elim h; obtain ⟨n3, hy, h⟩ := h
  refine sumK.introF [3] (sumRun_of (aqs := [.pointer (some ⟨0, 0, none⟩), .int .i64 2]) (ws := [.win 3 0 3 true]) (n := 0) (m := 0) (t' := 5) (ra_cons rfl rfl (ra_cons rfl rfl ra_nil)) rfl (by rfl) (r104_eq hy) rfl rfl rfl rfl (wb_win rfl rfl rfl ⟨rfl, Nat.le_of_ble_eq_true rfl⟩ rfl rfl wb_nil) an_nil rfl) ?_
  conv => whnf
  replace h := obind.elim h; obtain ⟨n4, hy, h⟩ := h
  refine sumK.introF [3] (sumRun_of (aqs := [.pointer (some ⟨0, 0, none⟩), .int .i64 2]) (ws := [.win 3 0 3 true]) (n := 0) (m := 0) (t' := 5) (ra_cons rfl rfl (ra_cons rfl rfl ra_nil)) rfl (by rfl) (r104_eq hy) rfl rfl rfl rfl (wb_win rfl rfl rfl ⟨rfl, Nat.le_of_ble_eq_true rfl⟩ rfl rfl wb_nil) an_nil rfl) ?_
  conv => whnf
  replace h := obind.elim h; obtain ⟨b, hy, h⟩ := h
  refine sumK.introF [3] (sumRun_of (aqs := [.pointer (some ⟨0, 0, none⟩)]) (ws := [.win 3 0 3 true]) (n := 0) (m := 0) (t' := 5) (ra_cons rfl rfl ra_nil) rfl (by rfl) (r105_eq hy) rfl rfl rfl rfl (wb_win rfl rfl rfl ⟨rfl, Nat.le_of_ble_eq_true rfl⟩ rfl rfl wb_nil) an_nil rfl) ?_
  conv => whnf
  refine br.h h ?_ ?_ ?_
  · rfl
  · clear h; intro hb h; conv => whnf
    all_goals (cases h; exact Res.z rfl rfl rfl)
  clear h; intro hb h; conv => whnf
  refine br.h h ?_ ?_ ?_
  · rfl
  · clear h; intro hb h; conv => whnf
    all_goals (cases h; exact Res.z rfl rfl rfl)
  clear h; intro hb h; conv => whnf
  refine br.h h ?_ ?_ ?_
  · rfl
  · clear h; intro hb h; conv => whnf
    all_goals (cases h; exact Res.z rfl rfl rfl)
  clear h; intro hb h; conv => whnf
  replace h := obind.elim h; obtain ⟨p, hy, h⟩ := h
  refine sumK.q rfl rfl (r46_eq hy) rfl rfl rfl ?_
  conv => whnf
  refine br.h h ?_ ?_ ?_
  · rfl
  · clear h; intro hb h; conv => whnf
    all_goals (cases h; exact Res.z rfl rfl rfl)
  clear h; intro hb h; conv => whnf
  refine br.h2 h ?_ ?_ ?_
  · rfl
  · clear h; intro hb h; conv => whnf
    refine br.h2 h ?_ ?_ ?_
    · rfl
    · clear h; intro hb h; conv => whnf
      replace h := oreq.elim h; obtain ⟨hb, h⟩ := h
      first | (refine req.intro hb ?_; conv => whnf) | skip
      all_goals (cases h; exact Res.z rfl rfl rfl)
    clear h; intro hb h; conv => whnf
    replace h := oreq.elim h; obtain ⟨hb, h⟩ := h
    first | (refine req.intro hb ?_; conv => whnf) | skip
    replace h := oreq.elim h; obtain ⟨hb, h⟩ := h
    first | (refine req.intro hb ?_; conv => whnf) | skip
    replace h := obind.elim h; obtain ⟨xr1, hy, h⟩ := h
    refine sumK.q rfl rfl (r101_eq hy) rfl rfl rfl ?_
    conv => whnf
    refine br.h h ?_ ?_ ?_
    · rfl
    · clear h; intro hb h; conv => whnf
      all_goals (cases h; exact Res.z rfl rfl rfl)
    clear h; intro hb h; conv => whnf
    replace h := oreq.elim h; obtain ⟨hb, h⟩ := h
    first | (refine req.intro hb ?_; conv => whnf) | skip
    all_goals (cases h; exact Res.z rfl rfl rfl)
  clear h; intro hb h; conv => whnf
  refine br.h h ?_ ?_ ?_
  · rfl
  · clear h; intro hb h; conv => whnf
    refine br.pos ?_ ?_; (focus (clear h; first | assumption | (simp_all; done)))
    conv => whnf
    all_goals (cases h; exact Res.z rfl rfl rfl)
  clear h; intro hb h; conv => whnf
  refine br.h2 h ?_ ?_ ?_
  · rfl
  · clear h; intro hb h; conv => whnf
    replace h := oreq.elim h; obtain ⟨hb, h⟩ := h
    first | (refine req.intro hb ?_; conv => whnf) | skip
    all_goals (cases h; exact Res.z rfl rfl rfl)
  clear h; intro hb h; conv => whnf
  replace h := oreq.elim h; obtain ⟨hb, h⟩ := h
  first | (refine req.intro hb ?_; conv => whnf) | skip
  replace h := oreq.elim h; obtain ⟨hb, h⟩ := h
  first | (refine req.intro hb ?_; conv => whnf) | skip
  replace h := obind.elim h; obtain ⟨xr, hy, h⟩ := h
  refine sumK.q rfl rfl (r101_eq hy) rfl rfl rfl ?_
  conv => whnf
  refine br.h h ?_ ?_ ?_
  · rfl
  · clear h; intro hb h; conv => whnf
    all_goals (cases h; exact Res.z rfl rfl rfl)
  clear h; intro hb h; conv => whnf
  replace h := oreq.elim h; obtain ⟨hb, h⟩ := h
  first | (refine req.intro hb ?_; conv => whnf) | skip
  all_goals (cases h; exact Res.z rfl rfl rfl)
theorem ok82 (check_Right : (List UInt8) → Option Bool) (ipfour_Pseudo : api_Addr → api_Addr → Int → Int → Option (List UInt8)) (octet_New : (List UInt8) → Option octet_Reader) (octet_Reader_Bad : octet_Reader → Option (Bool × octet_Reader)) (octet_Reader_Num : octet_Reader → Int → Option (Int × octet_Reader)) (hS : SumsOK Try.prog (aget (sums82 check_Right ipfour_Pseudo octet_New octet_Reader_Bad octet_Reader_Num))) : SumOK Try.prog 82 (s82 (udp_GetF check_Right ipfour_Pseudo octet_New octet_Reader_Bad octet_Reader_Num)) := by
  refine SumOK.of_leads tab_ok (fun ar os r ha hr => ?_) ⟨Try.f82, rfl, by decide, rfl⟩
  replace hr : r82 (udp_GetF check_Right ipfour_Pseudo octet_New octet_Reader_Bad octet_Reader_Num) ar (conts os) = some r := hr
  unfold r82 at hr
  generalize hc : conts os = C at hr
  replace hr := dV.elim hr; obtain ⟨v0, l1, y0, rfl, e0, hr⟩ := hr; obtain rfl := asS_eq _ _ e0
  replace hr := dV.elim hr; obtain ⟨v1, l2, y1, rfl, e1, hr⟩ := hr; obtain rfl := uvapi_Addr_eq _ _ e1
  replace hr := dV.elim hr; obtain ⟨v2, l3, y2, rfl, e2, hr⟩ := hr; obtain rfl := uvapi_Addr_eq _ _ e2
  replace hr := dFin hr; obtain ⟨rfl, rfl, x, h, rfl⟩ := hr
  obtain rfl := kinds_nil hc
  exact ⟨_, rfl, leads82 check_Right ipfour_Pseudo octet_New octet_Reader_Bad octet_Reader_Num hS _ _ _ x h⟩
def udp_Get : (List UInt8) → api_Addr → api_Addr → Option (udp_Head × (List UInt8) × Int) := udp_GetF check_Right ipfour_Pseudo octet_New octet_Reader_Bad octet_Reader_Num
theorem lift82 : SumOK Try.prog 82 (s82 udp_Get) := ok82 check_Right ipfour_Pseudo octet_New octet_Reader_Bad octet_Reader_Num (SumsOK.of_tab ⟨lift101, lift46, lift103, lift105, lift104, trivial⟩)
end Go.Vm.Code
namespace Go.Vm.Code
open Go Go.Vm
def u8 (h : udp_Head) (l : List UInt8) : List UInt8 := putS h.SPort 2 ++ putS h.DPort 2 ++ putS (8 + l.length) 2 ++ [0, 0] ++ l
def v2 (s : List UInt8) (p : Nat) : Int := (valL ((s.drop p).take 2) : Nat)
theorem v2_rng (s : List UInt8) (p : Nat) : 0 ≤ v2 s p ∧ v2 s p < 65536 := by
  have := val_take_lt (l := s.drop p) (k := 2) 65536 (by decide)
  unfold v2; omega
theorem num2 {r : octet_Reader} (h : r.made = true) (hl : r.s.length < 2 ^ 61) : octet_Reader_Num r 2 = some (rdn r 2, rdr r 2) := by
  rw [rNum_eq h hl, if_neg (by omega)]
theorem num2_ok {s : List UInt8} (h : 2 ≤ s.length) (hl : s.length < 2 ^ 61) : octet_Reader_Num ⟨s, true, false⟩ 2 = some (v2 s 0, ⟨s.drop 2, true, false⟩) := by
  rw [num2 rfl hl, rdr_ok (by omega) (by omega)]
  unfold rdn
  rw [if_neg (by omega), rdt_ok (by omega) (by omega)]; rfl
theorem v2_drop (s : List UInt8) (p q : Nat) : v2 (s.drop p) q = v2 s (p + q) := by unfold v2; rw [List.drop_drop]
def zero8 : udp_Head := ⟨0, 0⟩
def get8 (s : List UInt8) (src dst : api_Addr) : udp_Head × List UInt8 × Int :=
  if s.length < 8 then (zero8, [], 2) else if v2 s 4 < 8 then (zero8, [], 3) else if (s.length : Int) < v2 s 4 then (zero8, [], 2) else if pseu src dst 17 (v2 s 4) = [] then (zero8, [], 1) else
    if v2 s 6 = 0 then (if src.V6 = true then (zero8, [], 4) else (⟨v2 s 0, v2 s 2⟩, (s.drop 8).take ((v2 s 4).toNat - 8), 0)) else
      if norm (wsum (pseu src dst 17 (v2 s 4) ++ s.take (v2 s 4).toNat)) ≠ 65535 then (zero8, [], 4) else (⟨v2 s 0, v2 s 2⟩, (s.drop 8).take ((v2 s 4).toNat - 8), 0)
theorem uget_eq {s : List UInt8} {src dst : api_Addr} (h1 : A4 src) (h2 : A4 dst) (hs : s.length < 2 ^ 38) : udp_Get s src dst = some (get8 s src dst) := by
  unfold udp_Get udp_GetF get8
  rw [rNew_eq, Option.bind_some]
  by_cases h8 : s.length < 8
  · rw [if_pos h8]
    have m1 := rdr_made ⟨s, true, false⟩ 2
    have m2 := rdr_made (rdr ⟨s, true, false⟩ 2) 2
    have m3 := rdr_made (rdr (rdr ⟨s, true, false⟩ 2) 2) 2
    have m4 := rdr_made (rdr (rdr (rdr ⟨s, true, false⟩ 2) 2) 2) 2
    have k1 := rdr_len_le ⟨s, true, false⟩ 2
    have k2 := rdr_len_le (rdr ⟨s, true, false⟩ 2) 2
    have k3 := rdr_len_le (rdr (rdr ⟨s, true, false⟩ 2) 2) 2
    simp only at k1
    rw [num2 rfl (by simp only; omega), Option.bind_some]
    rw [num2 m1 (by omega), Option.bind_some]
    rw [num2 m2 (by omega), Option.bind_some]
    rw [num2 m3 (by omega), Option.bind_some, rBad_eq m4, Option.bind_some]
    have hb : (rdr (rdr (rdr (rdr ⟨s, true, false⟩ 2) 2) 2) 2).bad = true := by
      cases hb : (rdr (rdr (rdr (rdr ⟨s, true, false⟩ 2) 2) 2) 2).bad
      · exfalso
        obtain ⟨b3, l3⟩ := rdr_step rfl hb
        obtain ⟨b2, l2⟩ := rdr_step rfl b3
        obtain ⟨b1, l1⟩ := rdr_step rfl b2
        obtain ⟨b0, l0⟩ := rdr_step rfl b1
        simp only at l0
        omega
      · rfl
    simp only [hb, cond_true]; rfl
  · rw [if_neg h8]
    rw [num2_ok (by omega) (by omega), Option.bind_some, num2_ok (by simp; omega) (by simp; omega), Option.bind_some]
    simp only [List.drop_drop]
    rw [num2_ok (by simp; omega) (by simp; omega), Option.bind_some]
    simp only [List.drop_drop]
    rw [num2_ok (by simp; omega) (by simp; omega), Option.bind_some, rBad_eq rfl, Option.bind_some]
    simp only [cond_false, v2_drop, Nat.add_zero, Nat.reduceAdd]
    have r4 := v2_rng s 4
    have hp := pseu_len src dst 17 (v2 s 4)
    have hz : (⟨0, 0⟩ : udp_Head) = zero8 := rfl
    rw [hz]
    generalize hm : v2 s 4 = m at *
    by_cases g1 : m < 8
    · rw [cond_p g1, if_pos g1]
    rw [cond_n g1, if_neg g1]
    by_cases g2 : (s.length : Int) < m
    · rw [cond_p (by omega), if_pos g2]
    rw [cond_n (by omega), if_neg g2, pseudo_eq h1 h2 (by omega) (by omega), Option.bind_some]
    generalize pseu src dst 17 m = p at *
    by_cases g3 : p = []
    · subst g3; rw [if_pos rfl]; rfl
    rw [if_neg g3, show (p == []) = false by simpa using g3, cond_false]
    have hr : check_Right (p ++ s.take m.toNat) = some (((norm (wsum (p ++ s.take m.toNat)) : Nat) : Int) == 65535) := Right_eq (by simp; omega)
    by_cases g4 : v2 s 6 = 0
    · rw [if_pos g4, g4]
      simp only [beq_self_eq_true, cond_true, bne_self_eq_false, cond_false]
      cases src.V6
      · rw [if_neg (by decide), cond_false, oreq_p (by omega)]
      · rw [if_pos rfl, cond_true]
    · rw [if_neg g4, show (v2 s 6 == 0) = false by simpa using g4, show (v2 s 6 != 0) = true by simpa using g4]
      simp only [cond_false, cond_true]
      rw [oreq_p (by omega), oreq_p (by simp only [List.length_take]; omega), hr, Option.bind_some, oreq_p (by omega)]
      by_cases g5 : norm (wsum (p ++ s.take m.toNat)) = 65535
      · rw [if_neg (by simpa using g5), g5]; rfl
      · rw [if_pos (by simpa using g5), show ((((norm (wsum (p ++ s.take m.toNat)) : Nat) : Int) == 65535)) = false by simp; omega]; rfl
end Go.Vm.Code
namespace Go.Vm.Code
open Go Go.Vm Go.Proofs
set_option maxRecDepth 100000
set_option maxHeartbeats 4000000
set_option linter.unusedVariables false
def packet_PutF (addr_Right : api_Addr → Option Bool) (ipfour_Put : ipfour_Head → (List UInt8) → Option ((List UInt8) × Int)) (ipsix_Put : ipsix_Head → (List UInt8) → Option ((List UInt8) × Int)) (t : api_Tuple) (body : List UInt8) : Option ((List UInt8) × Int) :=
  cond (t.Proto == 6)
    (
    cond (!(t.Src.V6 == t.Dst.V6))
      (
      some (([], 1)))
      (
      (addr_Right t.Src).bind fun xr =>
      cond (!xr)
        (
        some (([], 1)))
        (
        (addr_Right t.Dst).bind fun xr1 =>
        cond (!xr1)
          (
          some (([], 1)))
          (
          cond (t.Src.V6)
            (
            (ipsix_Put (ipsix_Head.mk 0 0 t.Proto 64 t.Src t.Dst) body).bind fun p =>
            cond (p.2 == 0)
              (
              cond (decide ((p.1.length : Int) > 9000))
                (
                some (([], 5)))
                (
                some ((p.1, p.2))))
              (
              some ((p.1, p.2))))
            (
            (ipfour_Put (ipfour_Head.mk 0 0 true 64 t.Proto t.Src t.Dst []) body).bind fun p1 =>
            cond (p1.2 == 0)
              (
              cond (decide ((p1.1.length : Int) > 9000))
                (
                some (([], 5)))
                (
                some ((p1.1, p1.2))))
              (
              some ((p1.1, p1.2))))))))
    (
    cond (!(t.Proto == 17))
      (
      some (([], 1)))
      (
      cond (!(t.Src.V6 == t.Dst.V6))
        (
        some (([], 1)))
        (
        (addr_Right t.Src).bind fun xr2 =>
        cond (!xr2)
          (
          some (([], 1)))
          (
          (addr_Right t.Dst).bind fun xr3 =>
          cond (!xr3)
            (
            some (([], 1)))
            (
            cond (t.Src.V6)
              (
              (ipsix_Put (ipsix_Head.mk 0 0 t.Proto 64 t.Src t.Dst) body).bind fun p2 =>
              cond (p2.2 == 0)
                (
                cond (decide ((p2.1.length : Int) > 9000))
                  (
                  some (([], 5)))
                  (
                  some ((p2.1, p2.2))))
                (
                some ((p2.1, p2.2))))
              (
              (ipfour_Put (ipfour_Head.mk 0 0 true 64 t.Proto t.Src t.Dst []) body).bind fun p3 =>
              cond (p3.2 == 0)
                (
                cond (decide ((p3.1.length : Int) > 9000))
                  (
                  some (([], 5)))
                  (
                  some ((p3.1, p3.2))))
                (
                some ((p3.1, p3.2)))))))))
def rx32 (x : (List UInt8) × Int) : SRes := ⟨.tuple ⟨[.string ⟨⟨x.1⟩⟩, .int .i64 x.2]⟩, [], []⟩
def r32 (g : api_Tuple → (List UInt8) → Option ((List UInt8) × Int)) : Dec := dV uvapi_Tuple fun (y0 : api_Tuple) => dV asS fun (y1 : List UInt8) => dEnd (ofG (g y0 y1) rx32)
theorem r32_c {g : api_Tuple → (List UInt8) → Option ((List UInt8) × Int)} {y0 : api_Tuple} {y1 : List UInt8} {x : (List UInt8) × Int} (hx : g y0 y1 = some x) : r32 g [.agg ⟨[.int .i64 y0.Proto, .bool y0.Src.V6, .int .u64 y0.Src.Hi, .int .u64 y0.Src.Lo, .bool y0.Dst.V6, .int .u64 y0.Dst.Hi, .int .u64 y0.Dst.Lo, .int .i64 y0.SPort, .int .i64 y0.DPort]⟩, .string ⟨⟨y1⟩⟩] [] = some (rx32 x) := (dV_eq (uvapi_Tuple_c _)).trans ((dV_eq (asS_c)).trans (ofG_eq hx))
def s32 (g : api_Tuple → (List UInt8) → Option ((List UInt8) × Int)) : Summ := ⟨[.v, .v], r32 g⟩
theorem r32_eq {g : api_Tuple → (List UInt8) → Option ((List UInt8) × Int)} {y0 : api_Tuple} {y1 : List UInt8} {x : (List UInt8) × Int} (hx : g y0 y1 = some x) : (s32 g).run [.agg ⟨[.int .i64 y0.Proto, .bool y0.Src.V6, .int .u64 y0.Src.Hi, .int .u64 y0.Src.Lo, .bool y0.Dst.V6, .int .u64 y0.Dst.Hi, .int .u64 y0.Dst.Lo, .int .i64 y0.SPort, .int .i64 y0.DPort]⟩, .string ⟨⟨y1⟩⟩] [] = some (rx32 x) := r32_c hx
abbrev sums32 (addr_Right : api_Addr → Option Bool) (ipfour_Put : ipfour_Head → (List UInt8) → Option ((List UInt8) × Int)) (ipsix_Put : ipsix_Head → (List UInt8) → Option ((List UInt8) × Int)) : List (Nat × Summ) := [(50, s50 addr_Right), (52, s52 ipfour_Put), (51, s51 ipsix_Put)]
theorem leads32 (addr_Right : api_Addr → Option Bool) (ipfour_Put : ipfour_Head → (List UInt8) → Option ((List UInt8) × Int)) (ipsix_Put : ipsix_Head → (List UInt8) → Option ((List UInt8) × Int)) (hS : SumsOK Try.prog (aget (sums32 addr_Right ipfour_Put ipsix_Put))) (t : api_Tuple) (body : List UInt8) (res : (List UInt8) × Int) (h : packet_PutF addr_Right ipfour_Put ipsix_Put t body = some res) :
    Leads Try.prog 32 0 ⟨⟨32, 76, [(0, .agg ⟨[.int .i64 t.Proto, .bool t.Src.V6, .int .u64 t.Src.Hi, .int .u64 t.Src.Lo, .bool t.Dst.V6, .int .u64 t.Dst.Hi, .int .u64 t.Dst.Lo, .int .i64 t.SPort, .int .i64 t.DPort]⟩), (1, .string ⟨⟨body⟩⟩)], [.code k32_27], [], false, none⟩, [], [], 0⟩ (fun v H _ => Res 0 (rx32 res) v H) := by
  unfold packet_PutF at h
  refine ev_ok tab_ok hS true 3000 ?_
  conv => whnf
  refine br.h h ?_ ?_ ?_
  · rfl
  · clear h; intro hb h; conv => whnf
    refine br.h h ?_ ?_ ?_
    · rfl
    · clear h; intro hb h; conv => whnf
      all_goals (cases h; exact Res.z rfl rfl rfl)
    clear h; intro hb h; conv => whnf
    replace h := obind.elim h; obtain ⟨xr, hy, h⟩ := h
    refine sumK.q rfl rfl (r50_eq hy) rfl rfl rfl ?_
    conv => whnf
    refine br.h h ?_ ?_ ?_
    · rfl
    · clear h; intro hb h; conv => whnf
      all_goals (cases h; exact Res.z rfl rfl rfl)
    clear h; intro hb h; conv => whnf
    replace h := obind.elim h; obtain ⟨xr1, hy, h⟩ := h
    refine sumK.q rfl rfl (r50_eq hy) rfl rfl rfl ?_
    conv => whnf
    refine br.h h ?_ ?_ ?_
    · rfl
    · clear h; intro hb h; conv => whnf
      all_goals (cases h; exact Res.z rfl rfl rfl)
    clear h; intro hb h; conv => whnf
    refine br.h h ?_ ?_ ?_
    · rfl
    · clear h; intro hb h; conv => whnf
      replace h := obind.elim h; obtain ⟨p, hy, h⟩ := h
      refine sumK.q rfl rfl (r51_eq hy) rfl rfl rfl ?_
      conv => whnf
      refine br.h2 h ?_ ?_ ?_
      · rfl
      · clear h; intro hb h; conv => whnf
        all_goals (cases h; exact Res.z rfl rfl rfl)
      clear h; intro hb h; conv => whnf
      refine br.h h ?_ ?_ ?_
      · rfl
      · clear h; intro hb h; conv => whnf
        all_goals (cases h; exact Res.z rfl rfl rfl)
      clear h; intro hb h; conv => whnf
      all_goals (cases h; exact Res.z rfl rfl rfl)
    clear h; intro hb h; conv => whnf
    replace h := obind.elim h; obtain ⟨p1, hy, h⟩ := h
    refine sumK.q rfl rfl (r52_eq hy) rfl rfl rfl ?_
    conv => whnf
    refine br.h2 h ?_ ?_ ?_
    · rfl
    · clear h; intro hb h; conv => whnf
      all_goals (cases h; exact Res.z rfl rfl rfl)
    clear h; intro hb h; conv => whnf
    refine br.h h ?_ ?_ ?_
    · rfl
    · clear h; intro hb h; conv => whnf
      all_goals (cases h; exact Res.z rfl rfl rfl)
    clear h; intro hb h; conv => whnf
    all_goals (cases h; exact Res.z rfl rfl rfl)
  clear h; intro hb h; conv => whnf
  refine br.h h ?_ ?_ ?_
  · rfl
  · clear h; intro hb h; conv => whnf
    all_goals (cases h; exact Res.z rfl rfl rfl)
  clear h; intro hb h; conv => whnf
  refine br.h h ?_ ?_ ?_
  · rfl
  · clear h; intro hb h; conv => whnf
    all_goals (cases h; exact Res.z rfl rfl rfl)
  clear h; intro hb h; conv => whnf
  replace h := obind.elim h; obtain ⟨xr2, hy, h⟩ := h
  refine sumK.q rfl rfl (r50_eq hy) rfl rfl rfl ?_
  conv => whnf
  refine br.h h ?_ ?_ ?_
  · rfl
  · clear h; intro hb h; conv => whnf
    all_goals (cases h; exact Res.z rfl rfl rfl)
  clear h; intro hb h; conv => whnf
  replace h := obind.elim h; obtain ⟨xr3, hy, h⟩ := h
  refine sumK.q rfl rfl (r50_eq hy) rfl rfl rfl ?_
  conv => whnf
  refine br.h h ?_ ?_ ?_
  · rfl
  · clear h; intro hb h; conv => whnf
    all_goals (cases h; exact Res.z rfl rfl rfl)
  clear h; intro hb h; conv => whnf
  refine br.h h ?_ ?_ ?_
  · rfl
  · clear h; intro hb h; conv => whnf
    replace h := obind.elim h; obtain ⟨p2, hy, h⟩ := h
    refine sumK.q rfl rfl (r51_eq hy) rfl rfl rfl ?_
    conv => whnf
    refine br.h2 h ?_ ?_ ?_
    · rfl
    · clear h; intro hb h; conv => whnf
      all_goals (cases h; exact Res.z rfl rfl rfl)
    clear h; intro hb h; conv => whnf
    refine br.h h ?_ ?_ ?_
    · rfl
    · clear h; intro hb h; conv => whnf
      all_goals (cases h; exact Res.z rfl rfl rfl)
    clear h; intro hb h; conv => whnf
    all_goals (cases h; exact Res.z rfl rfl rfl)
  clear h; intro hb h; conv => whnf
  replace h := obind.elim h; obtain ⟨p3, hy, h⟩ := h
  refine sumK.q rfl rfl (r52_eq hy) rfl rfl rfl ?_
  conv => whnf
  refine br.h2 h ?_ ?_ ?_
  · rfl
  · clear h; intro hb h; conv => whnf
    all_goals (cases h; exact Res.z rfl rfl rfl)
  clear h; intro hb h; conv => whnf
  refine br.h h ?_ ?_ ?_
  · rfl
  · clear h; intro hb h; conv => whnf
    all_goals (cases h; exact Res.z rfl rfl rfl)
  clear h; intro hb h; conv => whnf
  all_goals (cases h; exact Res.z rfl rfl rfl)
theorem ok32 (addr_Right : api_Addr → Option Bool) (ipfour_Put : ipfour_Head → (List UInt8) → Option ((List UInt8) × Int)) (ipsix_Put : ipsix_Head → (List UInt8) → Option ((List UInt8) × Int)) (hS : SumsOK Try.prog (aget (sums32 addr_Right ipfour_Put ipsix_Put))) : SumOK Try.prog 32 (s32 (packet_PutF addr_Right ipfour_Put ipsix_Put)) := by
  refine SumOK.of_leads tab_ok (fun ar os r ha hr => ?_) ⟨Try.f32, rfl, by decide, rfl⟩
  replace hr : r32 (packet_PutF addr_Right ipfour_Put ipsix_Put) ar (conts os) = some r := hr
  unfold r32 at hr
  generalize hc : conts os = C at hr
  replace hr := dV.elim hr; obtain ⟨v0, l1, y0, rfl, e0, hr⟩ := hr; obtain rfl := uvapi_Tuple_eq _ _ e0
  replace hr := dV.elim hr; obtain ⟨v1, l2, y1, rfl, e1, hr⟩ := hr; obtain rfl := asS_eq _ _ e1
  replace hr := dFin hr; obtain ⟨rfl, rfl, x, h, rfl⟩ := hr
  obtain rfl := kinds_nil hc
  exact ⟨_, rfl, leads32 addr_Right ipfour_Put ipsix_Put hS _ _ x h⟩
def packet_Put : api_Tuple → (List UInt8) → Option ((List UInt8) × Int) := packet_PutF addr_Right ipfour_Put ipsix_Put
theorem lift32 : SumOK Try.prog 32 (s32 packet_Put) := ok32 addr_Right ipfour_Put ipsix_Put (SumsOK.of_tab ⟨lift50, lift52, lift51, trivial⟩)
def packet_SegmentF (packet_Put : api_Tuple → (List UInt8) → Option ((List UInt8) × Int)) (tcp_Put : tcp_Head → api_Addr → api_Addr → (List UInt8) → Option ((List UInt8) × Int)) (t : api_Tuple) (flags : Int) (options : List UInt8) (payload : List UInt8) : Option ((List UInt8) × Int) :=
  cond (t.Proto != 6)
    (
    some (([], 1)))
    (
    (tcp_Put (tcp_Head.mk t.SPort t.DPort 0 0 flags 65535 0 options) t.Src t.Dst payload).bind fun p =>
    cond (p.2 != 0)
      (
      some (([], p.2)))
      (
      (packet_Put t p.1).bind fun p1 =>
      some ((p1.1, p1.2))))
def rx14 (x : (List UInt8) × Int) : SRes := ⟨.tuple ⟨[.string ⟨⟨x.1⟩⟩, .int .i64 x.2]⟩, [], []⟩
def r14 (g : api_Tuple → Int → (List UInt8) → (List UInt8) → Option ((List UInt8) × Int)) : Dec := dV uvapi_Tuple fun (y0 : api_Tuple) => dV (asI .i64) fun (y1 : Int) => dV asS fun (y2 : List UInt8) => dV asS fun (y3 : List UInt8) => dEnd (ofG (g y0 y1 y2 y3) rx14)
theorem r14_c {g : api_Tuple → Int → (List UInt8) → (List UInt8) → Option ((List UInt8) × Int)} {y0 : api_Tuple} {y1 : Int} {y2 : List UInt8} {y3 : List UInt8} {x : (List UInt8) × Int} (hx : g y0 y1 y2 y3 = some x) : r14 g [.agg ⟨[.int .i64 y0.Proto, .bool y0.Src.V6, .int .u64 y0.Src.Hi, .int .u64 y0.Src.Lo, .bool y0.Dst.V6, .int .u64 y0.Dst.Hi, .int .u64 y0.Dst.Lo, .int .i64 y0.SPort, .int .i64 y0.DPort]⟩, .int .i64 y1, .string ⟨⟨y2⟩⟩, .string ⟨⟨y3⟩⟩] [] = some (rx14 x) := (dV_eq (uvapi_Tuple_c _)).trans ((dV_eq (asI_c _)).trans ((dV_eq (asS_c)).trans ((dV_eq (asS_c)).trans (ofG_eq hx))))
def s14 (g : api_Tuple → Int → (List UInt8) → (List UInt8) → Option ((List UInt8) × Int)) : Summ := ⟨[.v, .v, .v, .v], r14 g⟩
theorem r14_eq {g : api_Tuple → Int → (List UInt8) → (List UInt8) → Option ((List UInt8) × Int)} {y0 : api_Tuple} {y1 : Int} {y2 : List UInt8} {y3 : List UInt8} {x : (List UInt8) × Int} (hx : g y0 y1 y2 y3 = some x) : (s14 g).run [.agg ⟨[.int .i64 y0.Proto, .bool y0.Src.V6, .int .u64 y0.Src.Hi, .int .u64 y0.Src.Lo, .bool y0.Dst.V6, .int .u64 y0.Dst.Hi, .int .u64 y0.Dst.Lo, .int .i64 y0.SPort, .int .i64 y0.DPort]⟩, .int .i64 y1, .string ⟨⟨y2⟩⟩, .string ⟨⟨y3⟩⟩] [] = some (rx14 x) := r14_c hx
abbrev sums14 (packet_Put : api_Tuple → (List UInt8) → Option ((List UInt8) × Int)) (tcp_Put : tcp_Head → api_Addr → api_Addr → (List UInt8) → Option ((List UInt8) × Int)) : List (Nat × Summ) := [(32, s32 packet_Put), (31, s31 tcp_Put)]
theorem leads14 (packet_Put : api_Tuple → (List UInt8) → Option ((List UInt8) × Int)) (tcp_Put : tcp_Head → api_Addr → api_Addr → (List UInt8) → Option ((List UInt8) × Int)) (hS : SumsOK Try.prog (aget (sums14 packet_Put tcp_Put))) (t : api_Tuple) (flags : Int) (options : List UInt8) (payload : List UInt8) (res : (List UInt8) × Int) (h : packet_SegmentF packet_Put tcp_Put t flags options payload = some res) :
    Leads Try.prog 14 0 ⟨⟨14, 41, [(0, .agg ⟨[.int .i64 t.Proto, .bool t.Src.V6, .int .u64 t.Src.Hi, .int .u64 t.Src.Lo, .bool t.Dst.V6, .int .u64 t.Dst.Hi, .int .u64 t.Dst.Lo, .int .i64 t.SPort, .int .i64 t.DPort]⟩), (1, .int .i64 flags), (2, .string ⟨⟨options⟩⟩), (3, .string ⟨⟨payload⟩⟩)], [.code k14_19], [], false, none⟩, [], [], 0⟩ (fun v H _ => Res 0 (rx14 res) v H) := by
  unfold packet_SegmentF at h
  refine ev_ok tab_ok hS true 3000 ?_
  conv => whnf
  refine br.h h ?_ ?_ ?_
  · rfl
  · clear h; intro hb h; conv => whnf
    all_goals (cases h; exact Res.z rfl rfl rfl)
  clear h; intro hb h; conv => whnf
  replace h := obind.elim h; obtain ⟨p, hy, h⟩ := h
  refine sumK.q rfl rfl (r31_eq hy) rfl rfl rfl ?_
  conv => whnf
  refine br.h h ?_ ?_ ?_
  · rfl
  · clear h; intro hb h; conv => whnf
    all_goals (cases h; exact Res.z rfl rfl rfl)
  clear h; intro hb h; conv => whnf
  replace h := obind.elim h; obtain ⟨p1, hy, h⟩ := h
  refine sumK.q rfl rfl (r32_eq hy) rfl rfl rfl ?_
  conv => whnf
  all_goals (cases h; exact Res.z rfl rfl rfl)
theorem ok14 (packet_Put : api_Tuple → (List UInt8) → Option ((List UInt8) × Int)) (tcp_Put : tcp_Head → api_Addr → api_Addr → (List UInt8) → Option ((List UInt8) × Int)) (hS : SumsOK Try.prog (aget (sums14 packet_Put tcp_Put))) : SumOK Try.prog 14 (s14 (packet_SegmentF packet_Put tcp_Put)) := by
  refine SumOK.of_leads tab_ok (fun ar os r ha hr => ?_) ⟨Try.f14, rfl, by decide, rfl⟩
  replace hr : r14 (packet_SegmentF packet_Put tcp_Put) ar (conts os) = some r := hr
  unfold r14 at hr
  generalize hc : conts os = C at hr
  replace hr := dV.elim hr; obtain ⟨v0, l1, y0, rfl, e0, hr⟩ := hr; obtain rfl := uvapi_Tuple_eq _ _ e0
  replace hr := dV.elim hr; obtain ⟨v1, l2, y1, rfl, e1, hr⟩ := hr; obtain rfl := asI_eq _ _ _ e1
  replace hr := dV.elim hr; obtain ⟨v2, l3, y2, rfl, e2, hr⟩ := hr; obtain rfl := asS_eq _ _ e2
  replace hr := dV.elim hr; obtain ⟨v3, l4, y3, rfl, e3, hr⟩ := hr; obtain rfl := asS_eq _ _ e3
  replace hr := dFin hr; obtain ⟨rfl, rfl, x, h, rfl⟩ := hr
  obtain rfl := kinds_nil hc
  exact ⟨_, rfl, leads14 packet_Put tcp_Put hS _ _ _ _ x h⟩
def packet_Segment : api_Tuple → Int → (List UInt8) → (List UInt8) → Option ((List UInt8) × Int) := packet_SegmentF packet_Put tcp_Put
theorem lift14 : SumOK Try.prog 14 (s14 packet_Segment) := ok14 packet_Put tcp_Put (SumsOK.of_tab ⟨lift32, lift31, trivial⟩)
end Go.Vm.Code
namespace Go.Vm.Code
open Go Go.Vm
theorem A4.addrOK {a : api_Addr} (h : A4 a) : AddrOK a := ⟨⟨h.1, h.2.1⟩, h.2.2.1, h.2.2.2⟩
def h6of (t : api_Tuple) : ipsix_Head := ⟨0, 0, t.Proto, 64, t.Src, t.Dst⟩
def h5of (t : api_Tuple) : ipfour_Head := ⟨0, 0, true, 64, t.Proto, t.Src, t.Dst, []⟩
def raw11 (t : api_Tuple) (b : List UInt8) : List UInt8 × Int := cond t.Src.V6 (put6 (h6of t) b) (put5 (h5of t) b)
def put11 (t : api_Tuple) (b : List UInt8) : List UInt8 × Int :=
  if t.Src.V6 ≠ t.Dst.V6 ∨ aok t.Src = false ∨ aok t.Dst = false ∨ (t.Proto ≠ 6 ∧ t.Proto ≠ 17) then ([], 1) else
    if (raw11 t b).2 = 0 ∧ 9000 < (raw11 t b).1.length then ([], 5) else raw11 t b
theorem fin11 (r : List UInt8 × Int) : (cond (r.2 == 0) (cond (decide ((r.1.length : Int) > 9000)) (some (([], 5) : List UInt8 × Int)) (some (r.1, r.2))) (some (r.1, r.2))) = some (if r.2 = 0 ∧ 9000 < r.1.length then ([], 5) else r) := by
  by_cases h : r.2 = 0
  · rw [show (r.2 == 0) = true by simpa using h, cond_true]
    by_cases h2 : 9000 < r.1.length
    · rw [cond_p (by omega), if_pos ⟨h, h2⟩]
    · rw [cond_n (by omega), if_neg (fun x => h2 x.2)]
  · rw [show (r.2 == 0) = false by simpa using h, cond_false, if_neg (fun x => h x.1)]
def seg11 (t : api_Tuple) (flags : Int) (o l : List UInt8) : List UInt8 × Int :=
  if t.Proto ≠ 6 then ([], 1) else if (put7 ⟨t.SPort, t.DPort, 0, 0, flags, 65535, 0, o⟩ t.Src t.Dst l).2 ≠ 0 then ([], (put7 ⟨t.SPort, t.DPort, 0, 0, flags, 65535, 0, o⟩ t.Src t.Dst l).2) else put11 t (put7 ⟨t.SPort, t.DPort, 0, 0, flags, 65535, 0, o⟩ t.Src t.Dst l).1
theorem put7_len (h : tcp_Head) (src dst : api_Addr) (l : List UInt8) : (put7 h src dst l).1.length ≤ 20 + h.Options.length + l.length := by
  unfold put7
  split
  · simp
  split
  · simp
  split
  · simp
  · simp only [List.length_append, hc7_len]; omega
theorem put11_ok {t : api_Tuple} {b : List UInt8} (h : (put11 t b).2 = 0) : t.Src.V6 = t.Dst.V6 ∧ aok t.Src = true ∧ aok t.Dst = true ∧ (t.Proto = 6 ∨ t.Proto = 17) ∧ (put11 t b).1.length ≤ 9000 ∧
    ((t.Src.V6 = true ∧ H6 (h6of t) ∧ b.length ≤ 65535 ∧ put11 t b = (headB (h6of t) b.length ++ b, 0)) ∨ (t.Src.V6 = false ∧ H5 (h5of t) = true ∧ 20 + b.length ≤ 65535 ∧ put11 t b = (hc5 (h5of t) (20 + b.length) (ck5 (h5of t) (20 + b.length)) ++ b, 0))) := by
  unfold put11 at h ⊢
  by_cases g : t.Src.V6 ≠ t.Dst.V6 ∨ aok t.Src = false ∨ aok t.Dst = false ∨ (t.Proto ≠ 6 ∧ t.Proto ≠ 17)
  · rw [if_pos g] at h; exact absurd h (by decide)
  rw [if_neg g] at h ⊢
  by_cases g2 : (raw11 t b).2 = 0 ∧ 9000 < (raw11 t b).1.length
  · rw [if_pos g2] at h; exact absurd h (by decide)
  rw [if_neg g2] at h ⊢
  have hlen : (raw11 t b).1.length ≤ 9000 := by
    rcases Nat.lt_or_ge 9000 (raw11 t b).1.length with x | x
    · exact absurd ⟨h, x⟩ g2
    · exact x
  have e1 : t.Src.V6 = t.Dst.V6 := Decidable.byContradiction fun x => g (.inl x)
  have e2 : aok t.Src = true := by cases x : aok t.Src; · exact absurd (.inr (.inl x)) g
                                   · rfl
  have e3 : aok t.Dst = true := by cases x : aok t.Dst; · exact absurd (.inr (.inr (.inl x))) g
                                   · rfl
  have e4 : t.Proto = 6 ∨ t.Proto = 17 := by
    rcases Decidable.em (t.Proto = 6) with x | x
    · exact .inl x
    · exact .inr (Decidable.byContradiction fun y => g (.inr (.inr (.inr ⟨x, y⟩))))
  refine ⟨e1, e2, e3, e4, hlen, ?_⟩
  unfold raw11 at h ⊢
  cases hv : t.Src.V6
  · right
    rw [hv, cond_false] at h
    rw [cond_false]
    unfold put5 at h ⊢
    cases hh : H5 (h5of t)
    · rw [if_pos hh] at h; exact absurd h (by decide)
    rw [if_neg (by rw [hh]; decide)] at h
    rw [if_neg (by decide)]
    by_cases hl : 65535 - (20 + ((h5of t).Options.length : Int)) < b.length
    · rw [if_pos hl] at h; exact absurd h (by decide)
    have ho : (h5of t).Options.length = 0 := rfl
    rw [if_neg hl]
    refine ⟨rfl, rfl, by omega, ?_⟩
    rw [show (20 + ((h5of t).Options.length : Int) + b.length) = ((20 + b.length : Nat) : Int) by omega, hd5_hc hv (by rw [← hv]; exact e1.symm), set_hc]
    have : (65535 - ((norm (wsum (hc5 (h5of t) (20 + b.length) 0)) : Nat) : Int)).toNat = ck5 (h5of t) (20 + b.length) := by
      have := norm_le (wsum (hc5 (h5of t) (20 + b.length) 0))
      unfold ck5; omega
    rw [this]
  · left
    rw [hv, cond_true] at h
    rw [cond_true]
    unfold put6 at h ⊢
    by_cases hh : H6 (h6of t)
    · rw [if_neg (by simpa using hh)] at h ⊢
      by_cases hl : b.length > 65535
      · rw [if_pos hl] at h; exact absurd h (by decide)
      rw [if_neg hl]
      exact ⟨rfl, hh, by omega, rfl⟩
    · rw [if_pos hh] at h; exact absurd h (by decide)
theorem and14_bits : ∀ i : Fin 16, i.val ≠ 14 → Nat.testBit 18446744073709535231 i.val = true := by decide +kernel
theorem and14_zero {x : Nat} (hx : x < 65536) : x &&& 18446744073709535231 = 0 ↔ x = 0 ∨ x = 16384 := by
  constructor
  · intro h
    have hbit : ∀ i, i ≠ 14 → x.testBit i = false := by
      intro i hi
      by_cases h16 : i < 16
      · have h1 : (x &&& 18446744073709535231).testBit i = false := by rw [h]; exact Nat.zero_testBit i
        rw [Nat.testBit_and, and14_bits ⟨i, h16⟩ hi, Bool.and_true] at h1
        exact h1
      · exact Nat.testBit_lt_two_pow (Nat.lt_of_lt_of_le hx (by
          have : 2 ^ 16 ≤ 2 ^ i := Nat.pow_le_pow_right (by decide) (by omega)
          omega))
    cases h14 : x.testBit 14
    · left
      apply Nat.eq_of_testBit_eq
      intro i
      rw [Nat.zero_testBit]
      by_cases hi : i = 14
      · rw [hi, h14]
      · exact hbit i hi
    · right
      apply Nat.eq_of_testBit_eq
      intro i
      rw [show (16384 : Nat) = 2 ^ 14 from rfl, Nat.testBit_two_pow]
      by_cases hi : i = 14
      · rw [hi, h14]; rfl
      · rw [hbit i hi, decide_eq_false (fun e => hi e.symm)]
  · rintro (h | h)
    · rw [h]; rfl
    · rw [h]; rfl
theorem andn14 {x : Nat} (hx : x < 65536) : andnI .i64 (x : Int) 16384 = ((x &&& 18446744073709535231 : Nat) : Int) := by
  have h : x &&& 18446744073709535231 ≤ x := Nat.and_le_left
  show IntKind.wrap .i64 _ = _
  rw [show IntKind.bits .i64 = 64 from rfl, BitVec.toNat_and, bv64 (by omega), show (~~~ (BitVec.ofInt 64 16384)).toNat = 18446744073709535231 from rfl]
  exact wI64 (by omega) (by omega)
theorem andn_flag {a b : UInt8} : (andnI .i64 ((a.toNat : Int) * 256 + b.toNat) 16384 != 0) = decide ((a.toNat : Int) * 256 + b.toNat ≠ 0 ∧ (a.toNat : Int) * 256 + b.toNat ≠ 16384) := by
  have h1 := a.toNat_lt
  have h2 := b.toNat_lt
  have hx : a.toNat * 256 + b.toNat < 65536 := by omega
  rw [show (a.toNat : Int) * 256 + b.toNat = ((a.toNat * 256 + b.toNat : Nat) : Int) by omega, andn14 hx, Bool.eq_iff_iff, bne_iff_ne, decide_eq_true_eq]
  have hz := and14_zero hx
  generalize a.toNat * 256 + b.toNat = x at *
  generalize x &&& 18446744073709535231 = y at *
  constructor
  · intro h
    have : ¬ (x = 0 ∨ x = 16384) := fun e => h (by have := hz.2 e; omega)
    omega
  · intro h e
    have := hz.1 (by omega)
    omega
end Go.Vm.Code
namespace Go.Vm.Code
open Go Go.Vm Go.Proofs
set_option maxRecDepth 100000
set_option maxHeartbeats 4000000
set_option linter.unusedVariables false
def addr_GetF (octet_Get : (List UInt8) → Int → Int → Option (Int × Bool)) (s : List UInt8) : Option (api_Addr × Bool) :=
  cond ((s.length : Int) == 4)
    (
    (octet_Get s 0 4).bind fun xg =>
    some ((api_Addr.mk false 0 xg.1, true)))
    (
    cond ((s.length : Int) == 16)
      (
      (octet_Get s 0 8).bind fun xg1 =>
      (octet_Get s 8 8).bind fun xg2 =>
      some ((api_Addr.mk true xg1.1 xg2.1, true)))
      (
      some ((api_Addr.mk false 0 0, false))))
def rx117 (x : api_Addr × Bool) : SRes := ⟨.tuple ⟨[.agg ⟨[.bool x.1.V6, .int .u64 x.1.Hi, .int .u64 x.1.Lo]⟩, .bool x.2]⟩, [], []⟩
def r117 (g : (List UInt8) → Option (api_Addr × Bool)) : Dec := dV asS fun (y0 : List UInt8) => dEnd (ofG (g y0) rx117)
theorem r117_c {g : (List UInt8) → Option (api_Addr × Bool)} {y0 : List UInt8} {x : api_Addr × Bool} (hx : g y0 = some x) : r117 g [.string ⟨⟨y0⟩⟩] [] = some (rx117 x) := (dV_eq (asS_c)).trans (ofG_eq hx)
def s117 (g : (List UInt8) → Option (api_Addr × Bool)) : Summ := ⟨[.v], r117 g⟩
theorem r117_eq {g : (List UInt8) → Option (api_Addr × Bool)} {y0 : List UInt8} {x : api_Addr × Bool} (hx : g y0 = some x) : (s117 g).run [.string ⟨⟨y0⟩⟩] [] = some (rx117 x) := r117_c hx
abbrev sums117 (octet_Get : (List UInt8) → Int → Int → Option (Int × Bool)) : List (Nat × Summ) := [(25, s25 octet_Get)]
theorem leads117 (octet_Get : (List UInt8) → Int → Int → Option (Int × Bool)) (hS : SumsOK Try.prog (aget (sums117 octet_Get))) (s : List UInt8) (res : api_Addr × Bool) (h : addr_GetF octet_Get s = some res) :
    Leads Try.prog 117 0 ⟨⟨117, 35, [(0, .string ⟨⟨s⟩⟩)], [.code k117_25], [], false, none⟩, [], [], 0⟩ (fun v H _ => Res 0 (rx117 res) v H) := by
  unfold addr_GetF at h
  refine ev_ok tab_ok hS true 3000 ?_
  conv => whnf
  refine br.h h ?_ ?_ ?_
  · rfl
  · clear h; intro hb h; conv => whnf
    replace h := obind.elim h; obtain ⟨xg, hy, h⟩ := h
    refine sumK.q rfl rfl (r25_eq hy) rfl rfl rfl ?_
    conv => whnf
    all_goals (cases h; exact Res.z rfl rfl rfl)
  clear h; intro hb h; conv => whnf
  refine br.h2 h ?_ ?_ ?_
  · rfl
  · clear h; intro hb h; conv => whnf
    all_goals (cases h; exact Res.z rfl rfl rfl)
  clear h; intro hb h; conv => whnf
  replace h := obind.elim h; obtain ⟨xg1, hy, h⟩ := h
  refine sumK.q rfl rfl (r25_eq hy) rfl rfl rfl ?_
  conv => whnf
  replace h := obind.elim h; obtain ⟨xg2, hy, h⟩ := h
  refine sumK.q rfl rfl (r25_eq hy) rfl rfl rfl ?_
  conv => whnf
  all_goals (cases h; exact Res.z rfl rfl rfl)
theorem ok117 (octet_Get : (List UInt8) → Int → Int → Option (Int × Bool)) (hS : SumsOK Try.prog (aget (sums117 octet_Get))) : SumOK Try.prog 117 (s117 (addr_GetF octet_Get)) := by
  refine SumOK.of_leads tab_ok (fun ar os r ha hr => ?_) ⟨Try.f117, rfl, by decide, rfl⟩
  replace hr : r117 (addr_GetF octet_Get) ar (conts os) = some r := hr
  unfold r117 at hr
  generalize hc : conts os = C at hr
  replace hr := dV.elim hr; obtain ⟨v0, l1, y0, rfl, e0, hr⟩ := hr; obtain rfl := asS_eq _ _ e0
  replace hr := dFin hr; obtain ⟨rfl, rfl, x, h, rfl⟩ := hr
  obtain rfl := kinds_nil hc
  exact ⟨_, rfl, leads117 octet_Get hS _ x h⟩
def addr_Get : (List UInt8) → Option (api_Addr × Bool) := addr_GetF octet_Get
theorem lift117 : SumOK Try.prog 117 (s117 addr_Get) := ok117 octet_Get (SumsOK.of_tab ⟨lift25, trivial⟩)
end Go.Vm.Code
namespace Go.Vm.Code
open Go Go.Vm
theorem addr_Get16 {s : List UInt8} (h : s.length = 16) : addr_Get s = some (addrG s, true) := by
  unfold addr_Get addr_GetF
  have e1 : ((s.length : Int) == 4) = false := by rw [h]; rfl
  have e2 : ((s.length : Int) == 16) = true := by rw [h]; rfl
  have e3 : (s.drop 8).take 8 = s.drop 8 := List.take_of_length_le (by simp; omega)
  rw [e1, e2, cond_false, cond_true, octet_Get_eq (by omega), octet_Get_eq (by omega), getS_at (p := 0) (k := 8) (by omega) (by omega) (by omega) (by omega), getS_at (p := 8) (k := 8) (by omega) (by omega) (by omega) (by omega)]
  show some ((⟨true, ((valL ((s.drop 0).take 8) : Nat) : Int), ((valL ((s.drop 8).take 8) : Nat) : Int)⟩ : api_Addr), true) = _
  rw [e3]; rfl
def adr4 (s : List UInt8) (p : Nat) : api_Addr := ⟨false, 0, vK s p 4⟩
theorem aget4 {s : List UInt8} (h : s.length = 4) : addr_Get s = some (⟨false, 0, vK s 0 4⟩, true) := by
  unfold addr_Get addr_GetF
  rw [show ((s.length : Int) == 4) = true by rw [h]; rfl, cond_true, octet_Get_eq (by omega), getS_at (by omega) (by omega) (by omega) (by omega)]; rfl
end Go.Vm.Code
namespace Go.Vm.Code
open Go Go.Vm Go.Proofs
set_option maxRecDepth 100000
set_option maxHeartbeats 4000000
set_option linter.unusedVariables false
def ipfour_fields_addressF (addr_Get : (List UInt8) → Option (api_Addr × Bool)) (octet_Reader_Text : octet_Reader → Int → Option ((List UInt8) × octet_Reader)) (f : ipfour_fields) : Option (api_Addr × octet_Reader) :=
  (octet_Reader_Text f.Reader 4).bind fun t =>
  (addr_Get t.1).bind fun xg =>
  some ((xg.1, t.2))
def rx116 (x : api_Addr × octet_Reader) : SRes := ⟨.agg ⟨[.bool x.1.V6, .int .u64 x.1.Hi, .int .u64 x.1.Lo]⟩, [], [some [.string ⟨⟨x.2.s⟩⟩, .bool x.2.made, .bool x.2.bad]]⟩
def r116 (g : ipfour_fields → Option (api_Addr × octet_Reader)) : Dec := dTr 1 (utipfour_fields 0) fun (y0 : ipfour_fields) => dEnd (ofG (g y0) rx116)
theorem r116_c {g : ipfour_fields → Option (api_Addr × octet_Reader)} {y0 : ipfour_fields} {x : api_Addr × octet_Reader} (hx : g y0 = some x) : r116 g [.agg ⟨[.pointer (some ⟨0, 0, none⟩)]⟩] [some [.string ⟨⟨y0.Reader.s⟩⟩, .bool y0.Reader.made, .bool y0.Reader.bad]] = some (rx116 x) := (dTr_eq rfl rfl (utipfour_fields_c 0 _)).trans (ofG_eq hx)
def s116 (g : ipfour_fields → Option (api_Addr × octet_Reader)) : Summ := ⟨[.tr [⟨none, 0, 0, 1, none⟩]], r116 g⟩
theorem r116_eq {g : ipfour_fields → Option (api_Addr × octet_Reader)} {y0 : ipfour_fields} {x : api_Addr × octet_Reader} (hx : g y0 = some x) : (s116 g).run [.agg ⟨[.pointer (some ⟨0, 0, none⟩)]⟩] [some [.string ⟨⟨y0.Reader.s⟩⟩, .bool y0.Reader.made, .bool y0.Reader.bad]] = some (rx116 x) := r116_c hx
abbrev sums116 (addr_Get : (List UInt8) → Option (api_Addr × Bool)) (octet_Reader_Text : octet_Reader → Int → Option ((List UInt8) × octet_Reader)) : List (Nat × Summ) := [(117, s117 addr_Get), (106, s106 octet_Reader_Text)]
theorem leads116 (addr_Get : (List UInt8) → Option (api_Addr × Bool)) (octet_Reader_Text : octet_Reader → Int → Option ((List UInt8) × octet_Reader)) (hS : SumsOK Try.prog (aget (sums116 addr_Get octet_Reader_Text))) (f : ipfour_fields) (res : api_Addr × octet_Reader) (h : ipfour_fields_addressF addr_Get octet_Reader_Text f = some res) :
    Leads Try.prog 116 1 ⟨⟨116, 13, [(0, .agg ⟨[.pointer (some ⟨0, 0, none⟩)]⟩)], [.code k116_5], [], false, none⟩, [], [(0, .cells [.string ⟨⟨f.Reader.s⟩⟩, .bool f.Reader.made, .bool f.Reader.bad])], 1⟩ (fun v H _ => Res 1 (rx116 res) v H) := by
  unfold ipfour_fields_addressF at h
  refine ev_ok tab_ok hS true 3000 ?_
  conv => whnf
  replace h := obind.elim h; obtain ⟨t, hy, h⟩ := h
  refine sumK.introF [0] (sumRun_of (aqs := [.pointer (some ⟨0, 0, none⟩), .int .i64 4]) (ws := [.win 0 0 3 true]) (n := 0) (m := 0) (t' := 3) (ra_cons rfl rfl (ra_cons rfl rfl ra_nil)) rfl (by rfl) (r106_eq hy) rfl rfl rfl rfl (wb_win rfl rfl rfl ⟨rfl, Nat.le_of_ble_eq_true rfl⟩ rfl rfl wb_nil) an_nil rfl) ?_
  conv => whnf
  replace h := obind.elim h; obtain ⟨xg, hy, h⟩ := h
  refine sumK.q rfl rfl (r117_eq hy) rfl rfl rfl ?_
  conv => whnf
  all_goals (cases h)
  all_goals exact Res.of [] rfl nw_0 (by decide) js_0 (wr_s (rfl) (hs_cells rfl) wr_0)
theorem ok116 (addr_Get : (List UInt8) → Option (api_Addr × Bool)) (octet_Reader_Text : octet_Reader → Int → Option ((List UInt8) × octet_Reader)) (hS : SumsOK Try.prog (aget (sums116 addr_Get octet_Reader_Text))) : SumOK Try.prog 116 (s116 (ipfour_fields_addressF addr_Get octet_Reader_Text)) := by
  refine SumOK.of_leads tab_ok (fun ar os r ha hr => ?_) ⟨Try.f116, rfl, by decide, rfl⟩
  replace hr : r116 (ipfour_fields_addressF addr_Get octet_Reader_Text) ar (conts os) = some r := hr
  unfold r116 at hr
  generalize hc : conts os = C at hr
  have hq := dTr.elim hr; clear hr; obtain ⟨v0, l1, c0, C, y0, rfl, rfl, e0, hr⟩ := hq; obtain ⟨rfl, rfl⟩ := utipfour_fields_eq e0; simp only [List.nil_append, List.cons_append] at hc
  replace hr := dFin hr; obtain ⟨rfl, rfl, x, h, rfl⟩ := hr
  obtain ⟨os, rfl, ha, hc⟩ := kinds_some ha hc
  obtain rfl := kinds_nil hc
  exact ⟨_, rfl, leads116 addr_Get octet_Reader_Text hS _ x h⟩
def ipfour_fields_address : ipfour_fields → Option (api_Addr × octet_Reader) := ipfour_fields_addressF addr_Get octet_Reader_Text
theorem lift116 : SumOK Try.prog 116 (s116 ipfour_fields_address) := ok116 addr_Get octet_Reader_Text (SumsOK.of_tab ⟨lift117, lift106, trivial⟩)
end Go.Vm.Code
