import Derived.Test.YtadhjooghfdloaaNSavedTellsd
namespace Go.Vm.Code
open Go Go.Vm Go.Proofs
set_option maxRecDepth 100000
set_option maxHeartbeats 4000000
set_option linter.unusedVariables false
def R12_Hash_s1 (R12_Round : Int → Int → Int → Int → Option (Int × Int × Int × Int)) (s : List UInt8) (t : Int) (i : Int) (a1 : Int) (b1 : Int) (c1 : Int) (d1 : Int) (m : Int) (n : Int) : Option (Sum (Int × Int × Int × Int × Int × Int) (Sum (Int × Int × Int × Int × Int) Int)) :=
  cond (decide (n < 2))
    (
    (R12_Round a1 b1 c1 d1).bind fun xr =>
    some (.inl (xr.1, xr.2.1, xr.2.2.1, xr.2.2.2, m, wI .i64 (n + 1))))
    (
    some (.inr (.inl (ixorI .u64 a1 m, b1, c1, d1, wI .i64 (i + 8)))))
def R12_Hash_s2 (R12_Mix : Int → Int → Int → Int → Int → Option Arr4_Int) (R12_Round : Int → Int → Int → Int → Option (Int × Int × Int × Int)) (R12_word : (List UInt8) → Option Int) (s : List UInt8) (t : Int) (a : Int) (b : Int) (c : Int) (d : Int) (i : Int) : Option (Sum (Int × Int × Int × Int × Int) Int) :=
  cond (decide (i ≤ t))
    (
    let t1 := if (s.length : Int) < (wI .i64 (i + 8)) then (s.length : Int) else wI .i64 (i + 8)
    oreq (decide ((0 : Int) ≤ t1 ∧ t1 ≤ (s.length : Int) ∧ (0 : Int) ≤ i ∧ i ≤ (t1.toNat : Int))) <|
    let t2 := (s.drop i.toNat).take (t1.toNat - i.toNat)
    (R12_word t2).bind fun w =>
    cond (i == t)
      (
      oreq (decide ((0 : Int) ≤ i ∧ i ≤ (s.length : Int))) <|
      let t3 := (s.drop i.toNat).take (s.length - i.toNat)
      (R12_word t3).bind fun w1 =>
      let t4 := wI .u64 ((wI .u64 ((s.length : Int).tmod 256)) * 2 ^ 56)
      iter (fun st => R12_Hash_s1 R12_Round s t i st.1 st.2.1 st.2.2.1 st.2.2.2.1 st.2.2.2.2.1 st.2.2.2.2.2) FUEL (a, b, c, ixorI .u64 d (wI .u64 (w1 + t4)), wI .u64 (w1 + t4), 0))
      (
      iter (fun st => R12_Hash_s1 R12_Round s t i st.1 st.2.1 st.2.2.1 st.2.2.2.1 st.2.2.2.2.1 st.2.2.2.2.2) FUEL (a, b, c, ixorI .u64 d w, w, 0)))
    (
    (R12_Mix a b (ixorI .u64 c 255) d 4).bind fun m1 =>
    let t5 := ixorI .u64 (ixorI .u64 m1.e0 m1.e1) m1.e2
    some (.inr (ixorI .u64 t5 m1.e3)))
def R12_HashF (R12_Mix : Int → Int → Int → Int → Int → Option Arr4_Int) (R12_Round : Int → Int → Int → Int → Option (Int × Int × Int × Int)) (R12_word : (List UInt8) → Option Int) (k : api_Key) (s : List UInt8) : Option Int :=
  let t := wI .i64 ((wI .i64 ((s.length : Int).tdiv 8)) * 8)
  iter (fun st => R12_Hash_s2 R12_Mix R12_Round R12_word s t st.1 st.2.1 st.2.2.1 st.2.2.2.1 st.2.2.2.2) FUEL (ixorI .u64 8317987319222330741 k.A, ixorI .u64 7237128888997146477 k.B, ixorI .u64 7816392313619706465 k.A, ixorI .u64 8387220255154660723 k.B, 0)
def rx95 (x : Int) : SRes := ⟨.int .u64 x, [], []⟩
def r95 (g : api_Key → (List UInt8) → Option Int) : Dec := dV uvapi_Key fun (y0 : api_Key) => dV asS fun (y1 : List UInt8) => dEnd (ofG (g y0 y1) rx95)
theorem r95_c {g : api_Key → (List UInt8) → Option Int} {y0 : api_Key} {y1 : List UInt8} {x : Int} (hx : g y0 y1 = some x) : r95 g [.agg ⟨[.int .u64 y0.A, .int .u64 y0.B]⟩, .string ⟨⟨y1⟩⟩] [] = some (rx95 x) := (dV_eq (uvapi_Key_c _)).trans ((dV_eq (asS_c)).trans (ofG_eq hx))
def s95 (g : api_Key → (List UInt8) → Option Int) : Summ := ⟨[.v, .v], r95 g⟩
theorem r95_eq {g : api_Key → (List UInt8) → Option Int} {y0 : api_Key} {y1 : List UInt8} {x : Int} (hx : g y0 y1 = some x) : (s95 g).run [.agg ⟨[.int .u64 y0.A, .int .u64 y0.B]⟩, .string ⟨⟨y1⟩⟩] [] = some (rx95 x) := r95_c hx
abbrev sums95 (R12_Mix : Int → Int → Int → Int → Int → Option Arr4_Int) (R12_Round : Int → Int → Int → Int → Option (Int × Int × Int × Int)) (R12_word : (List UInt8) → Option Int) : List (Nat × Summ) := [(137, s137 R12_Mix), (136, s136 R12_Round), (135, s135 R12_word)]
def head95_1 (s : List UInt8) (t : Int) (i : Int) (a1 : Int) (b1 : Int) (c1 : Int) (d1 : Int) (m : Int) (n : Int) : VM :=
  ⟨⟨95, 95, [(1, .string ⟨⟨s⟩⟩), (5, .int .u64 a1), (6, .int .u64 b1), (7, .int .u64 c1), (8, .int .u64 d1), (9, .int .i64 t), (10, .int .i64 i), (11, .int .u64 m), (12, .int .i64 n)], [.code k95_22, .inLoop k95_22, .inBlock 2, .code k95_26, .inBlock 1, .code k95_32, .inLoop k95_34, .inBlock 0, .code k95_43], [], false, none⟩, [], [], 15⟩
def head95_2 (s : List UInt8) (t : Int) (a : Int) (b : Int) (c : Int) (d : Int) (i : Int) : VM :=
  ⟨⟨95, 95, [(1, .string ⟨⟨s⟩⟩), (5, .int .u64 a), (6, .int .u64 b), (7, .int .u64 c), (8, .int .u64 d), (9, .int .i64 t), (10, .int .i64 i)], [.code k95_34, .inLoop k95_34, .inBlock 0, .code k95_43], [], false, none⟩, [], [], 15⟩
theorem loop95_1 (R12_Mix : Int → Int → Int → Int → Int → Option Arr4_Int) (R12_Round : Int → Int → Int → Int → Option (Int × Int × Int × Int)) (R12_word : (List UInt8) → Option Int) (hS : SumsOK Try.prog (aget (sums95 R12_Mix R12_Round R12_word))) (s : List UInt8) (t : Int) (i : Int) (res : Int) : ∀ fuel (st : Int × Int × Int × Int × Int × Int) (o : Sum (Int × Int × Int × Int × Int) Int), iter (fun st => R12_Hash_s1 R12_Round s t i st.1 st.2.1 st.2.2.1 st.2.2.2.1 st.2.2.2.2.1 st.2.2.2.2.2) fuel st = some o → (Sum.elim (fun s0 => Leads Try.prog 95 0 (head95_2 s t s0.1 s0.2.1 s0.2.2.1 s0.2.2.2.1 s0.2.2.2.2) (fun v H _ => Res 0 (rx95 res) v H)) (fun r0 => r0 = res) o) →
    Leads Try.prog 95 0 (head95_1 s t i st.1 st.2.1 st.2.2.1 st.2.2.2.1 st.2.2.2.2.1 st.2.2.2.2.2) (fun v H _ => Res 0 (rx95 res) v H) := by
  intro fuel st o h hc
  refine iter_leads (head := fun st => head95_1 s t i st.1 st.2.1 st.2.2.1 st.2.2.2.1 st.2.2.2.2.1 st.2.2.2.2.2) (C := fun o => (Sum.elim (fun s0 => Leads Try.prog 95 0 (head95_2 s t s0.1 s0.2.1 s0.2.2.1 s0.2.2.2.1 s0.2.2.2.2) (fun v H _ => Res 0 (rx95 res) v H)) (fun r0 => r0 = res) o)) ?_ fuel st o h hc
  clear h hc o st fuel
  intro st o h hc
  obtain ⟨a1, b1, c1, d1, m, n⟩ := st
  replace h : R12_Hash_s1 R12_Round s t i a1 b1 c1 d1 m n = some o := h
  show Leads Try.prog 95 0 (head95_1 s t i a1 b1 c1 d1 m n) (fun v H _ => Res 0 (rx95 res) v H)
  unfold R12_Hash_s1 at h
  refine ev_ok tab_ok hS true 3000 ?_
  conv => whnf
  refine br.h2 h ?_ ?_ ?_
  · rfl
  · clear h; intro hb h; conv => whnf
    cases h; simp only [Sum.elim_inr, Sum.elim_inl, head95_2] at hc
    exact lrA0 hc [] rfl
  clear h; intro hb h; conv => whnf
  replace h := obind.elim h; obtain ⟨xr, hy, h⟩ := h
  refine sumK.q rfl rfl (r136_eq hy) rfl rfl rfl ?_
  conv => whnf
  cases h; simp only [Sum.elim_inl, head95_1] at hc
  exact lrA0 hc [] rfl
theorem loop95_2 (R12_Mix : Int → Int → Int → Int → Int → Option Arr4_Int) (R12_Round : Int → Int → Int → Int → Option (Int × Int × Int × Int)) (R12_word : (List UInt8) → Option Int) (hS : SumsOK Try.prog (aget (sums95 R12_Mix R12_Round R12_word))) (s : List UInt8) (t : Int) (res : Int) : ∀ fuel (st : Int × Int × Int × Int × Int) (o : Int), iter (fun st => R12_Hash_s2 R12_Mix R12_Round R12_word s t st.1 st.2.1 st.2.2.1 st.2.2.2.1 st.2.2.2.2) fuel st = some o → (o = res) →
    Leads Try.prog 95 0 (head95_2 s t st.1 st.2.1 st.2.2.1 st.2.2.2.1 st.2.2.2.2) (fun v H _ => Res 0 (rx95 res) v H) := by
  intro fuel st o h hc
  refine iter_leads (head := fun st => head95_2 s t st.1 st.2.1 st.2.2.1 st.2.2.2.1 st.2.2.2.2) (C := fun o => (o = res)) ?_ fuel st o h hc
  clear h hc o st fuel
  intro st o h hc
  obtain ⟨a, b, c, d, i⟩ := st
  replace h : R12_Hash_s2 R12_Mix R12_Round R12_word s t a b c d i = some o := h
  show Leads Try.prog 95 0 (head95_2 s t a b c d i) (fun v H _ => Res 0 (rx95 res) v H)
  unfold R12_Hash_s2 at h
  refine ev_ok tab_ok hS true 3000 ?_
  conv => whnf
  refine br.h2 h ?_ ?_ ?_
  · rfl
  · clear h; intro hb h; conv => whnf
    replace h := obind.elim h; obtain ⟨m1, hy, h⟩ := h
    refine sumK.q rfl rfl (r137_eq hy) rfl rfl rfl ?_
    conv => whnf
    let t5 : Int := ixorI .u64 (ixorI .u64 m1.e0 m1.e1) m1.e2
    all_goals (cases h; cases hc; exact Res.z rfl rfl rfl)
  clear h; intro hb h; conv => whnf
  let t1 : Int := if (s.length : Int) < (wI .i64 (i + 8)) then (s.length : Int) else wI .i64 (i + 8)
  replace h := oreq.elim h; obtain ⟨hb, h⟩ := h
  first | (refine req.intro hb ?_; conv => whnf) | skip
  let t2 : List UInt8 := (s.drop i.toNat).take (t1.toNat - i.toNat)
  replace h := obind.elim h; obtain ⟨w, hy, h⟩ := h
  refine sumK.q rfl rfl (r135_eq hy) rfl rfl rfl ?_
  conv => whnf
  refine br.h2 h ?_ ?_ ?_
  · rfl
  · clear h; intro hb h; conv => whnf
    have hl := loop95_1 R12_Mix R12_Round R12_word hS _ _ _ res _ _ _ h hc; simp only [head95_1] at hl
    exact lrA0 hl [] rfl
  clear h; intro hb h; conv => whnf
  replace h := oreq.elim h; obtain ⟨hb, h⟩ := h
  first | (refine req.intro hb ?_; conv => whnf) | skip
  let t3 : List UInt8 := (s.drop i.toNat).take (s.length - i.toNat)
  replace h := obind.elim h; obtain ⟨w1, hy, h⟩ := h
  refine sumK.q rfl rfl (r135_eq hy) rfl rfl rfl ?_
  conv => whnf
  let t4 : Int := wI .u64 ((wI .u64 ((s.length : Int).tmod 256)) * 2 ^ 56)
  have hl := loop95_1 R12_Mix R12_Round R12_word hS _ _ _ res _ _ _ h hc; simp only [head95_1] at hl
  exact lrA0 hl [] rfl
theorem leads95 (R12_Mix : Int → Int → Int → Int → Int → Option Arr4_Int) (R12_Round : Int → Int → Int → Int → Option (Int × Int × Int × Int)) (R12_word : (List UInt8) → Option Int) (hS : SumsOK Try.prog (aget (sums95 R12_Mix R12_Round R12_word))) (k : api_Key) (s : List UInt8) (res : Int) (h : R12_HashF R12_Mix R12_Round R12_word k s = some res) :
    Leads Try.prog 95 0 ⟨⟨95, 95, [(0, .agg ⟨[.int .u64 k.A, .int .u64 k.B]⟩), (1, .string ⟨⟨s⟩⟩)], [.code k95_48], [], false, none⟩, [], [], 0⟩ (fun v H _ => Res 0 (rx95 res) v H) := by
  unfold R12_HashF at h
  refine ev_ok tab_ok hS true 3000 ?_
  conv => whnf
  let t : Int := wI .i64 ((wI .i64 ((s.length : Int).tdiv 8)) * 8)
  have hl := loop95_2 R12_Mix R12_Round R12_word hS _ _ res _ _ _ h rfl; simp only [head95_2] at hl
  exact lrA0 hl [] rfl
theorem ok95 (R12_Mix : Int → Int → Int → Int → Int → Option Arr4_Int) (R12_Round : Int → Int → Int → Int → Option (Int × Int × Int × Int)) (R12_word : (List UInt8) → Option Int) (hS : SumsOK Try.prog (aget (sums95 R12_Mix R12_Round R12_word))) : SumOK Try.prog 95 (s95 (R12_HashF R12_Mix R12_Round R12_word)) := by
  refine SumOK.of_leads tab_ok (fun ar os r ha hr => ?_) ⟨Try.f95, rfl, by decide, rfl⟩
  replace hr : r95 (R12_HashF R12_Mix R12_Round R12_word) ar (conts os) = some r := hr
  unfold r95 at hr
  generalize hc : conts os = C at hr
  replace hr := dV.elim hr; obtain ⟨v0, l1, y0, rfl, e0, hr⟩ := hr; obtain rfl := uvapi_Key_eq _ _ e0
  replace hr := dV.elim hr; obtain ⟨v1, l2, y1, rfl, e1, hr⟩ := hr; obtain rfl := asS_eq _ _ e1
  replace hr := dFin hr; obtain ⟨rfl, rfl, x, h, rfl⟩ := hr
  obtain rfl := kinds_nil hc
  exact ⟨_, rfl, leads95 R12_Mix R12_Round R12_word hS _ _ x h⟩
def R12_Hash : api_Key → (List UInt8) → Option Int := R12_HashF R12_Mix R12_Round R12_word
theorem lift95 : SumOK Try.prog 95 (s95 R12_Hash) := ok95 R12_Mix R12_Round R12_word (SumsOK.of_tab ⟨lift137, lift136, lift135, trivial⟩)
end Go.Vm.Code
namespace Go.Vm.Code
open Go Go.Vm
theorem iorU64_hi (k : Nat) {a b : Int} (h0 : 0 ≤ a) (h1 : a * 2 ^ k < 18446744073709551616) (hb0 : 0 ≤ b) (hb : b < 2 ^ k) (hb1 : b < 18446744073709551616) : iorI .u64 b (a * 2 ^ k) = a * 2 ^ k + b := by
  obtain ⟨n, rfl⟩ := Int.eq_ofNat_of_zero_le h0
  obtain ⟨m, rfl⟩ := Int.eq_ofNat_of_zero_le hb0
  have e : ((n : Int) * 2 ^ k) = ((n * 2 ^ k : Nat) : Int) := by push_cast; rfl
  rw [e] at h1 ⊢
  rw [iorU64 (by omega) (by omega), Nat.or_comm, or_low (by exact_mod_cast hb)]; push_cast; rfl
def wrd : List UInt8 → Nat
  | [] => 0
  | b :: l => b.toNat + 256 * wrd l
theorem wrd_lt : ∀ l : List UInt8, wrd l < 256 ^ l.length
  | [] => by simp [wrd]
  | b :: l => by
    have := wrd_lt l
    have hb := b.toNat_lt
    rw [wrd, List.length_cons, Nat.pow_succ]; omega
theorem wrd_snoc : ∀ (l : List UInt8) (b : UInt8), wrd (l ++ [b]) = wrd l + 256 ^ l.length * b.toNat
  | [], b => by simp [wrd]
  | c :: l, b => by
    have := wrd_snoc l b
    rw [List.cons_append, wrd, this, wrd, List.length_cons, Nat.pow_succ, Nat.mul_add, Nat.mul_comm (256 ^ l.length) 256, Nat.mul_assoc]; omega
theorem pow_le8 {j : Nat} (h : j ≤ 8) : 256 ^ j ≤ 18446744073709551616 := by
  have : (256 : Nat) ^ j ≤ 256 ^ 8 := Nat.pow_le_pow_right (by decide) h
  simpa using this
theorem word_eq12 {s : List UInt8} (hs : s.length ≤ 8) : R12_word s = some (wrd s : Int) := by
  unfold R12_word R12_wordF
  rw [wI64 (by omega) (by omega)]
  have key := iter_eq (step := fun (st : Int × Int) => R12_word_s1 s st.1 st.2) (fun st => ((st.1.toNat * 256 ^ (st.2 + 1).toNat + wrd (s.take (st.2 + 1).toNat) : Nat) : Int)) (fun st => 0 ≤ st.1 ∧ -1 ≤ st.2 ∧ st.2 < s.length ∧ st.1.toNat < 256 ^ (s.length - (st.2 + 1).toNat)) (fun st => (st.2 + 1).toNat) ?_ FUEL (0, (s.length : Int) - 1) ⟨by simp, by simp only; omega, by simp only; omega, by simp⟩ (by rw [FUEL_eq]; simp only; omega)
  · rw [key]
    have e : ((s.length : Int) - 1 + 1).toNat = s.length := by omega
    simp only [e]; simp
  rintro ⟨n, i⟩ ⟨g1, g2, g3, g4⟩
  simp only at g1 g2 g3 g4 ⊢
  obtain ⟨v, rfl⟩ := Int.eq_ofNat_of_zero_le g1
  simp only [Int.toNat_natCast] at g4 ⊢
  unfold R12_word_s1
  by_cases hi : i ≥ 0
  · obtain ⟨j, rfl⟩ := Int.eq_ofNat_of_zero_le hi
    have e1 : ((j : Int) + 1).toNat = j + 1 := by omega
    have e2 : ((j : Int) - 1 + 1).toNat = j := by omega
    rw [e1] at g4 ⊢
    have hj : j < s.length := by omega
    have hb := s[j].toNat_lt
    have hv : v * 256 + s[j].toNat < 256 ^ (s.length - j) := by
      rw [show s.length - j = (s.length - (j + 1)) + 1 by omega, Nat.pow_succ]; omega
    have hv2 := pow_le8 (j := s.length - j) (by omega)
    refine .inr ⟨(((v * 256 + s[j].toNat : Nat) : Int), (j : Int) - 1), ?_, ⟨by simp only; omega, by simp only; omega, by simp only; omega, ?_⟩, by simp only; omega, ?_⟩
    · rw [cond_p hi, oreq_p hi, Int.toNat_natCast, List.getElem?_eq_getElem hj, Option.bind_some, wU64 (n := (v : Int) * 2 ^ 8) (by omega) (by omega), wU64 (n := (s[j].toNat : Int)) (by omega) (by omega), wU64 (by omega) (by omega), wI64 (by omega) (by omega)]
      simp only []
      congr 3 <;> omega
    · simp only [e2, Int.toNat_natCast]; exact hv
    · simp only [e2, Int.toNat_natCast]
      rw [List.take_succ_eq_append_getElem hj, wrd_snoc, List.length_take, Nat.min_eq_left (by omega), Nat.pow_succ, Nat.add_mul, Nat.mul_assoc, Nat.mul_comm (256 ^ j) 256, Nat.mul_comm (256 ^ j) s[j].toNat]
      congr 1
      omega
  · refine .inl ?_
    rw [cond_n hi]
    have e1 : (i + 1).toNat = 0 := by omega
    rw [e1]; simp [wrd]
def finQ (q : Arr4_Int) : Int :=
  let m := rnds 4 ⟨q.e0, q.e1, ixorI .u64 q.e2 255, q.e3⟩
  ixorI .u64 (ixorI .u64 (ixorI .u64 m.e0 m.e1) m.e2) m.e3
theorem part_eq (T : Arr4_Int → Int → Arr4_Int) : ∀ (l : List UInt8) (h : sip_Hasher) (j v : Nat), h.count.toNat % 8 = j → 0 ≤ h.count → h.last = (v : Int) → v < 256 ^ j → j + l.length < 8 → l.foldl (wrT T) h = ⟨h.made, h.s, ((v + 256 ^ j * wrd l : Nat) : Int), h.count + l.length⟩
  | [], h, j, v, hj, h0, hv, hlt, hl => by
    obtain ⟨m, s, la, c⟩ := h
    simp only at hv; subst hv
    simp [wrd]
  | b :: l, h, j, v, hj, h0, hv, hlt, hl => by
    rw [List.length_cons] at hl
    have hb := b.toNat_lt
    have hp : (256 : Nat) ^ j = 2 ^ (8 * j) := by rw [Nat.pow_mul]
    have hp2 := pow_le8 (j := j + 1) (by omega)
    rw [Nat.pow_succ] at hp2
    have hb2 : b.toNat * 256 ^ j ≤ 255 * 256 ^ j := Nat.mul_le_mul_right _ (by omega)
    have hpI : (2 : Int) ^ (8 * j) = ((256 ^ j : Nat) : Int) := by rw [hp]; push_cast; rfl
    have e1 : wI .u64 ((b.toNat : Int) * 2 ^ (8 * j)) = (b.toNat : Int) * 2 ^ (8 * j) := by
      rw [hpI, ← Int.natCast_mul]; exact wU64 (by omega) (by omega)
    have e2 : iorI .u64 (v : Int) ((b.toNat : Int) * 2 ^ (8 * j)) = ((v + 256 ^ j * b.toNat : Nat) : Int) := by
      rw [iorU64_hi (8 * j) (by omega) (by rw [hpI, ← Int.natCast_mul]; omega) (by omega) (by rw [hpI]; omega) (by omega), hpI, ← Int.natCast_mul, Nat.mul_comm]; omega
    have hw : wrT T h b = ⟨h.made, h.s, ((v + 256 ^ j * b.toNat : Nat) : Int), h.count + 1⟩ := by
      unfold wrT
      rw [hj, hv, if_neg (by omega), e1, e2]
    rw [List.foldl_cons, hw, part_eq T l _ (j + 1) (v + 256 ^ j * b.toNat) (by simp only; omega) (by simp only; omega) rfl (by rw [Nat.pow_succ, Nat.mul_comm (256 ^ j) b.toNat]; omega) (by omega)]
    simp only [wrd, Nat.pow_succ, List.length_cons]
    congr 1
    · rw [Nat.mul_add, ← Nat.mul_assoc, Nat.add_assoc]
    · omega
theorem full_eq (T : Arr4_Int → Int → Arr4_Int) {l : List UInt8} {h : sip_Hasher} (hl : l.length = 8) (hc : h.count.toNat % 8 = 0) (h0 : 0 ≤ h.count) (hv : h.last = 0) : l.foldl (wrT T) h = ⟨h.made, T h.s (wrd l : Int), 0, h.count + 8⟩ := by
  obtain ⟨l7, b, rfl⟩ : ∃ l7 b, l = l7 ++ [b] := ⟨l.dropLast, l.getLast (by intro e; rw [e] at hl; simp at hl), (List.dropLast_concat_getLast _).symm⟩
  have h7 : l7.length = 7 := by simp at hl; omega
  have hb := b.toNat_lt
  have hw := wrd_lt l7
  rw [h7] at hw
  rw [List.foldl_append, part_eq T l7 h 0 0 hc h0 (by rw [hv]; rfl) (by simp) (by omega), h7, wrd_snoc, h7]
  simp only [List.foldl_cons, List.foldl_nil, wrT, Nat.pow_zero, Nat.one_mul, Nat.zero_add]
  have e0 : (h.count + ((7 : Nat) : Int)).toNat % 8 = 7 := by omega
  have e00 : ((h.count + ((7 : Nat) : Int)).toNat + 1) % 8 = 0 := by omega
  rw [e0, if_pos e00]
  have e1 : wI .u64 ((b.toNat : Int) * 2 ^ (8 * 7)) = (b.toNat : Int) * 2 ^ (8 * 7) := wU64 (by omega) (by omega)
  have e2 : iorI .u64 (wrd l7 : Int) ((b.toNat : Int) * 2 ^ (8 * 7)) = ((wrd l7 + 256 ^ 7 * b.toNat : Nat) : Int) := by
    rw [iorU64_hi (8 * 7) (by omega) (by omega) (by omega) (by omega) (by omega)]; omega
  rw [e1, e2]
  congr 1
  omega
def hashR (T : Arr4_Int → Int → Arr4_Int) (fin : Arr4_Int → Int) (n : Nat) (q : Arr4_Int) (l : List UInt8) : Int :=
  if h : 8 ≤ l.length then hashR T fin n (T q (wrd (l.take 8) : Int)) (l.drop 8) else fin (T q ((wrd l + n % 256 * 2 ^ 56 : Nat) : Int))
termination_by l.length
decreasing_by simp; omega
theorem fold_hashR (T : Arr4_Int → Int → Arr4_Int) (fin : Arr4_Int → Int) : ∀ (k : Nat) (l : List UInt8) (h : sip_Hasher), l.length ≤ k → h.count.toNat % 8 = 0 → 0 ≤ h.count → h.last = 0 → ∀ n : Nat, (n : Int) = h.count + l.length →
    fin (T (l.foldl (wrT T) h).s (iorI .u64 (l.foldl (wrT T) h).last (wI .u64 ((wI .u64 (l.foldl (wrT T) h).count) * 2 ^ 56)))) = hashR T fin n h.s l := by
  intro k
  induction k with
  | zero =>
    intro l h hl hc h0 hv n hn
    obtain rfl : l = [] := List.length_eq_zero_iff.1 (by omega)
    rw [hashR, dif_neg (by simp)]
    simp only [List.foldl_nil, hv, wrd]
    congr 2
    simp at hn
    rw [← hn]
    have e1 : wI .u64 ((wI .u64 (n : Int)) * 2 ^ 56) = ((n % 256 : Nat) : Int) * 2 ^ 56 := by rw [wU64m, wU64m]; omega
    rw [e1, iorU64_hi 56 (by omega) (by omega) (by omega) (by omega) (by omega)]; omega
  | succ k ih =>
    intro l h hl hc h0 hv n hn
    by_cases h8 : 8 ≤ l.length
    · rw [hashR, dif_pos h8]
      have hs : l.foldl (wrT T) h = (l.drop 8).foldl (wrT T) ⟨h.made, T h.s (wrd (l.take 8) : Int), 0, h.count + 8⟩ := by
        rw [← full_eq T (l := l.take 8) (by simp; omega) hc h0 hv, ← List.foldl_append, List.take_append_drop]
      rw [hs]
      exact ih (l.drop 8) ⟨h.made, T h.s (wrd (l.take 8) : Int), 0, h.count + 8⟩ (by simp; omega) (by simp only; omega) (by simp only; omega) rfl n (by simp; omega)
    · rw [hashR, dif_neg h8, part_eq T l h 0 0 hc h0 (by rw [hv]; rfl) (by simp) (by omega)]
      simp only [Nat.zero_add, Nat.pow_zero, Nat.one_mul]
      congr 2
      rw [← hn]
      have hw : wrd l < 256 ^ 7 := Nat.lt_of_lt_of_le (wrd_lt l) (Nat.pow_le_pow_right (by decide) (by omega))
      have e1 : wI .u64 ((wI .u64 (n : Int)) * 2 ^ 56) = ((n % 256 : Nat) : Int) * 2 ^ 56 := by rw [wU64m, wU64m]; omega
      rw [e1, iorU64_hi 56 (by omega) (by omega) (by omega) (by omega) (by omega)]; omega
theorem inner12G (r : Arr4_Int → Arr4_Int) (s : List UInt8) (t i a b c d m : Int) (hi : 0 ≤ i ∧ i < 2 ^ 62) : iter (fun (st : Int × Int × Int × Int × Int × Int) => R12_Hash_s1 (fun a b c d => some ((r ⟨a, b, c, d⟩).e0, (r ⟨a, b, c, d⟩).e1, (r ⟨a, b, c, d⟩).e2, (r ⟨a, b, c, d⟩).e3)) s t i st.1 st.2.1 st.2.2.1 st.2.2.2.1 st.2.2.2.2.1 st.2.2.2.2.2) FUEL (a, b, c, d, m, 0) =
    some (.inl (ixorI .u64 (r (r ⟨a, b, c, d⟩)).e0 m, (r (r ⟨a, b, c, d⟩)).e1, (r (r ⟨a, b, c, d⟩)).e2, (r (r ⟨a, b, c, d⟩)).e3, i + 8)) := by
  have e8 : wI .i64 (i + 8) = i + 8 := wI64 (by omega) (by omega)
  show iter _ (18446744073709551613 + 1 + 1 + 1) _ = _
  rw [iter]
  have s1 : ∀ (a b c d n : Int), n < 2 → 0 ≤ n → R12_Hash_s1 (fun a b c d => some ((r ⟨a, b, c, d⟩).e0, (r ⟨a, b, c, d⟩).e1, (r ⟨a, b, c, d⟩).e2, (r ⟨a, b, c, d⟩).e3)) s t i a b c d m n = some (.inl ((r ⟨a, b, c, d⟩).e0, (r ⟨a, b, c, d⟩).e1, (r ⟨a, b, c, d⟩).e2, (r ⟨a, b, c, d⟩).e3, m, n + 1)) := by
    intro a b c d n h1 h0
    unfold R12_Hash_s1
    rw [cond_p h1, Option.bind_some, wI64 (n := n + 1) (by omega) (by omega)]
  have s2 : ∀ (a b c d : Int), R12_Hash_s1 (fun a b c d => some ((r ⟨a, b, c, d⟩).e0, (r ⟨a, b, c, d⟩).e1, (r ⟨a, b, c, d⟩).e2, (r ⟨a, b, c, d⟩).e3)) s t i a b c d m 2 = some (.inr (.inl (ixorI .u64 a m, b, c, d, i + 8))) := by
    intro a b c d
    unfold R12_Hash_s1
    rw [cond_n (by decide), e8]
  rw [s1 a b c d 0 (by decide) (by decide)]
  simp only []
  rw [iter]
  simp only [show (0 : Int) + 1 = 1 from rfl]
  rw [s1 _ _ _ _ 1 (by decide) (by decide)]
  simp only []
  rw [iter]
  simp only [show (1 : Int) + 1 = 2 from rfl]
  rw [s2]
theorem inner12 (s : List UInt8) (t i a b c d m : Int) (hi : 0 ≤ i ∧ i < 2 ^ 62) : iter (fun (st : Int × Int × Int × Int × Int × Int) => R12_Hash_s1 R12_Round s t i st.1 st.2.1 st.2.2.1 st.2.2.2.1 st.2.2.2.2.1 st.2.2.2.2.2) FUEL (a, b, c, ixorI .u64 d m, m, 0) =
    some (.inl ((tak ⟨a, b, c, d⟩ m).e0, (tak ⟨a, b, c, d⟩ m).e1, (tak ⟨a, b, c, d⟩ m).e2, (tak ⟨a, b, c, d⟩ m).e3, i + 8)) := by
  have e : R12_Round = fun a b c d => some ((rnd ⟨a, b, c, d⟩).e0, (rnd ⟨a, b, c, d⟩).e1, (rnd ⟨a, b, c, d⟩).e2, (rnd ⟨a, b, c, d⟩).e3) := by
    funext a b c d; exact Round_eq a b c d
  rw [e, inner12G rnd s t i a b c (ixorI .u64 d m) m hi]
  simp only [tak, rnds]
theorem R12_Hash_eq {k : api_Key} {s : List UInt8} (h : s.length < 2 ^ 60) : R12_Hash k s = some (hashR tak finQ s.length (newV k).s s) := by
  unfold R12_Hash R12_HashF
  have ew : wI .i64 ((wI .i64 ((s.length : Int).tdiv 8)) * 8) = ((s.length / 8 * 8 : Nat) : Int) := by
    rw [Int.tdiv_eq_ediv_of_nonneg (by omega), wI64 (n := (s.length : Int) / 8) (by omega) (by omega), wI64 (by omega) (by omega)]; omega
  rw [ew]
  simp only []
  generalize hw : s.length / 8 * 8 = w
  have hw1 : w ≤ s.length ∧ s.length < w + 8 ∧ w % 8 = 0 := by omega
  have key := iter_eq (step := fun (st : Int × Int × Int × Int × Int) => R12_Hash_s2 R12_Mix R12_Round R12_word s (w : Int) st.1 st.2.1 st.2.2.1 st.2.2.2.1 st.2.2.2.2)
    (fun st => if st.2.2.2.2 ≤ w then hashR tak finQ s.length ⟨st.1, st.2.1, st.2.2.1, st.2.2.2.1⟩ (s.drop st.2.2.2.2.toNat) else finQ ⟨st.1, st.2.1, st.2.2.1, st.2.2.2.1⟩)
    (fun st => ∃ i : Nat, st.2.2.2.2 = i ∧ i % 8 = 0 ∧ i ≤ w + 8) (fun st => (w + 8 - st.2.2.2.2).toNat) ?_ FUEL ((newV k).s.e0, (newV k).s.e1, (newV k).s.e2, (newV k).s.e3, 0) ⟨0, rfl, by omega, by omega⟩ (by rw [FUEL_eq]; simp only; omega)
  · refine Eq.trans key ?_
    simp only [Int.toNat_zero, List.drop_zero]
    rw [if_pos (by omega)]
  rintro ⟨a, b, c, d, p⟩ ⟨i, g1, g2, g3⟩
  simp only at g1 ⊢
  subst g1
  unfold R12_Hash_s2
  by_cases hi : i ≤ w
  · rw [cond_p (by omega), if_pos (show (i : Int) ≤ w by omega), Int.toNat_natCast]
    have e8 : wI .i64 ((i : Int) + 8) = (i : Int) + 8 := wI64 (by omega) (by omega)
    by_cases hl : i = w
    · subst hl
      have e1 : (if (s.length : Int) < (i : Int) + 8 then (s.length : Int) else (i : Int) + 8) = s.length := by rw [if_pos (by omega)]
      have hlen : (s.drop i).length ≤ 7 := by simp; omega
      have et : (s.drop i).take (s.length - i) = s.drop i := List.take_of_length_le (by simp)
      have hv : wrd (s.drop i) < 256 ^ 7 := Nat.lt_of_lt_of_le (wrd_lt _) (Nat.pow_le_pow_right (by decide) hlen)
      have em : wI .u64 ((wrd (s.drop i) : Int) + wI .u64 ((wI .u64 ((s.length : Int).tmod 256)) * 2 ^ 56)) = ((wrd (s.drop i) + s.length % 256 * 2 ^ 56 : Nat) : Int) := by
        rw [Int.tmod_eq_emod_of_nonneg (by omega), wU64 (n := (s.length : Int) % 256) (by omega) (by omega), wU64 (n := (s.length : Int) % 256 * 2 ^ 56) (by omega) (by omega), wU64 (by omega) (by omega)]; omega
      refine .inr ⟨((tak ⟨a, b, c, d⟩ ((wrd (s.drop i) + s.length % 256 * 2 ^ 56 : Nat) : Int)).e0, (tak ⟨a, b, c, d⟩ ((wrd (s.drop i) + s.length % 256 * 2 ^ 56 : Nat) : Int)).e1, (tak ⟨a, b, c, d⟩ ((wrd (s.drop i) + s.length % 256 * 2 ^ 56 : Nat) : Int)).e2, (tak ⟨a, b, c, d⟩ ((wrd (s.drop i) + s.length % 256 * 2 ^ 56 : Nat) : Int)).e3, (i : Int) + 8), ?_, ⟨i + 8, by simp only; omega, by omega, by omega⟩, by simp only; omega, ?_⟩
      · simp only [e8, e1]
        rw [oreq_p (by omega), Int.toNat_natCast, et, word_eq12 (by omega), Option.bind_some, beq_self_eq_true, cond_true, oreq_p (by omega), Option.bind_some, em]
        exact inner12 s (i : Int) (i : Int) a b c d _ (by omega)
      · simp only []
        rw [if_neg (show ¬ (i : Int) + 8 ≤ i by omega), hashR, dif_neg (by omega)]
    · have h8 : i + 8 ≤ s.length := by omega
      have e1 : (if (s.length : Int) < (i : Int) + 8 then (s.length : Int) else (i : Int) + 8) = (i : Int) + 8 := by
        split
        · omega
        · rfl
      have e2 : ((i : Int) + 8).toNat - i = 8 := by omega
      have e3 : ((i : Int) == (w : Int)) = false := by rw [beq_eq_false_iff_ne]; omega
      refine .inr ⟨((tak ⟨a, b, c, d⟩ (wrd ((s.drop i).take 8) : Int)).e0, (tak ⟨a, b, c, d⟩ (wrd ((s.drop i).take 8) : Int)).e1, (tak ⟨a, b, c, d⟩ (wrd ((s.drop i).take 8) : Int)).e2, (tak ⟨a, b, c, d⟩ (wrd ((s.drop i).take 8) : Int)).e3, (i : Int) + 8), ?_, ⟨i + 8, by simp only; omega, by omega, by omega⟩, by simp only; omega, ?_⟩
      · simp only [e8, e1]
        rw [oreq_p (by omega), e2, word_eq12 (by rw [List.length_take]; omega), Option.bind_some, e3, cond_false]
        exact inner12 s (w : Int) (i : Int) a b c d _ (by omega)
      · simp only []
        rw [if_pos (show (i : Int) + 8 ≤ w by omega), show ((i : Int) + 8).toNat = i + 8 by omega]
        conv => rhs; rw [hashR, dif_pos (by simp; omega), List.drop_drop]
  · refine .inl ?_
    rw [cond_n (by omega), if_neg (show ¬ (i : Int) ≤ w by omega), Mix_eq, Option.bind_some, show cnt 4 = 4 from rfl]
    rfl
end Go.Vm.Code
namespace Go.Vm.Code
open Go Go.Vm Go.Proofs
set_option maxRecDepth 100000
set_option maxHeartbeats 4000000
set_option linter.unusedVariables false
def sip_HashF (sip_Hasher_Sum : sip_Hasher → Option (Int × sip_Hasher)) (sip_Hasher_Write : sip_Hasher → (List UInt8) → Option sip_Hasher) (sip_New : api_Key → Option sip_Hasher) (k : api_Key) (s : List UInt8) : Option Int :=
  (sip_New k).bind fun n =>
  (sip_Hasher_Write n s).bind fun w =>
  (sip_Hasher_Sum w).bind fun s1 =>
  some (s1.1)
def rx94 (x : Int) : SRes := ⟨.int .u64 x, [], []⟩
def r94 (g : api_Key → (List UInt8) → Option Int) : Dec := dV uvapi_Key fun (y0 : api_Key) => dV asS fun (y1 : List UInt8) => dEnd (ofG (g y0 y1) rx94)
theorem r94_c {g : api_Key → (List UInt8) → Option Int} {y0 : api_Key} {y1 : List UInt8} {x : Int} (hx : g y0 y1 = some x) : r94 g [.agg ⟨[.int .u64 y0.A, .int .u64 y0.B]⟩, .string ⟨⟨y1⟩⟩] [] = some (rx94 x) := (dV_eq (uvapi_Key_c _)).trans ((dV_eq (asS_c)).trans (ofG_eq hx))
def s94 (g : api_Key → (List UInt8) → Option Int) : Summ := ⟨[.v, .v], r94 g⟩
theorem r94_eq {g : api_Key → (List UInt8) → Option Int} {y0 : api_Key} {y1 : List UInt8} {x : Int} (hx : g y0 y1 = some x) : (s94 g).run [.agg ⟨[.int .u64 y0.A, .int .u64 y0.B]⟩, .string ⟨⟨y1⟩⟩] [] = some (rx94 x) := r94_c hx
abbrev sums94 (sip_Hasher_Sum : sip_Hasher → Option (Int × sip_Hasher)) (sip_Hasher_Write : sip_Hasher → (List UInt8) → Option sip_Hasher) (sip_New : api_Key → Option sip_Hasher) : List (Nat × Summ) := [(134, s134 sip_Hasher_Sum), (133, s133 sip_Hasher_Write), (132, s132 sip_New)]
theorem leads94 (sip_Hasher_Sum : sip_Hasher → Option (Int × sip_Hasher)) (sip_Hasher_Write : sip_Hasher → (List UInt8) → Option sip_Hasher) (sip_New : api_Key → Option sip_Hasher) (hS : SumsOK Try.prog (aget (sums94 sip_Hasher_Sum sip_Hasher_Write sip_New))) (k : api_Key) (s : List UInt8) (res : Int) (h : sip_HashF sip_Hasher_Sum sip_Hasher_Write sip_New k s = some res) :
    Leads Try.prog 94 0 ⟨⟨94, 13, [(0, .agg ⟨[.int .u64 k.A, .int .u64 k.B]⟩), (1, .string ⟨⟨s⟩⟩)], [.code k94_7], [], false, none⟩, [], [], 0⟩ (fun v H _ => Res 0 (rx94 res) v H) := by
  unfold sip_HashF at h
  refine ev_ok tab_ok hS true 3000 ?_
  conv => whnf
  replace h := obind.elim h; obtain ⟨n, hy, h⟩ := h
  refine sumK.introF [1] (sumRun_of (aqs := [.agg ⟨[.int .u64 k.A, .int .u64 k.B]⟩]) (ws := []) (n := 1) (m := 0) (t' := 2) (ra_cons rfl rfl ra_nil) rfl (by rfl) (r132_eq hy) rfl rfl rfl rfl wb_nil (an_cons (rfl) an_nil) rfl) ?_
  conv => whnf
  replace h := obind.elim h; obtain ⟨w, hy, h⟩ := h
  refine sumK.introF [1] (sumRun_of (aqs := [.pointer (some ⟨0, 0, none⟩), .string ⟨⟨s⟩⟩]) (ws := [.win 1 0 7 true]) (n := 0) (m := 0) (t' := 2) (ra_cons rfl rfl (ra_cons rfl rfl ra_nil)) rfl (by rfl) (r133_eq hy) rfl rfl rfl rfl (wb_win rfl rfl rfl ⟨rfl, Nat.le_of_ble_eq_true rfl⟩ rfl rfl wb_nil) an_nil rfl) ?_
  conv => whnf
  replace h := obind.elim h; obtain ⟨s1, hy, h⟩ := h
  refine sumK.introF [1] (sumRun_of (aqs := [.pointer (some ⟨0, 0, none⟩)]) (ws := [.win 1 0 7 true]) (n := 0) (m := 0) (t' := 2) (ra_cons rfl rfl ra_nil) rfl (by rfl) (r134_eq hy) rfl rfl rfl rfl (wb_win rfl rfl rfl ⟨rfl, Nat.le_of_ble_eq_true rfl⟩ rfl rfl wb_nil) an_nil rfl) ?_
  conv => whnf
  all_goals (cases h; exact Res.z rfl rfl rfl)
theorem ok94 (sip_Hasher_Sum : sip_Hasher → Option (Int × sip_Hasher)) (sip_Hasher_Write : sip_Hasher → (List UInt8) → Option sip_Hasher) (sip_New : api_Key → Option sip_Hasher) (hS : SumsOK Try.prog (aget (sums94 sip_Hasher_Sum sip_Hasher_Write sip_New))) : SumOK Try.prog 94 (s94 (sip_HashF sip_Hasher_Sum sip_Hasher_Write sip_New)) := by
  refine SumOK.of_leads tab_ok (fun ar os r ha hr => ?_) ⟨Try.f94, rfl, by decide, rfl⟩
  replace hr : r94 (sip_HashF sip_Hasher_Sum sip_Hasher_Write sip_New) ar (conts os) = some r := hr
  unfold r94 at hr
  generalize hc : conts os = C at hr
  replace hr := dV.elim hr; obtain ⟨v0, l1, y0, rfl, e0, hr⟩ := hr; obtain rfl := uvapi_Key_eq _ _ e0
  replace hr := dV.elim hr; obtain ⟨v1, l2, y1, rfl, e1, hr⟩ := hr; obtain rfl := asS_eq _ _ e1
  replace hr := dFin hr; obtain ⟨rfl, rfl, x, h, rfl⟩ := hr
  obtain rfl := kinds_nil hc
  exact ⟨_, rfl, leads94 sip_Hasher_Sum sip_Hasher_Write sip_New hS _ _ x h⟩
def sip_Hash : api_Key → (List UInt8) → Option Int := sip_HashF sip_Hasher_Sum sip_Hasher_Write sip_New
theorem lift94 : SumOK Try.prog 94 (s94 sip_Hash) := ok94 sip_Hasher_Sum sip_Hasher_Write sip_New (SumsOK.of_tab ⟨lift134, lift133, lift132, trivial⟩)
end Go.Vm.Code
namespace Go.Vm.Code
open Go Go.Vm
theorem Hash_eq {k : api_Key} {s : List UInt8} (h : s.length < 2 ^ 61) : sip_Hash k s = some (sumV (s.foldl wrB (newV k))) := by
  unfold sip_Hash sip_HashF
  rw [New_eq, Option.bind_some, Write_eq rfl (by simp [newV]) (by simp [newV]; omega), Option.bind_some, Sum_eq (by rw [(wrL s _).1]; rfl)]; rfl
theorem Hash_R {k : api_Key} {s : List UInt8} (h : s.length < 2 ^ 61) : sip_Hash k s = some (hashR tak finQ s.length (newV k).s s) := by
  rw [Hash_eq h]
  congr 1
  exact fold_hashR tak finQ s.length s (newV k) (Nat.le_refl _) rfl (by simp [newV]) rfl s.length (by simp [newV])
theorem ixor_rng (a b : Int) : 0 ≤ ixorI .u64 a b ∧ ixorI .u64 a b < 2 ^ 64 := by
  have := wU64m (((BitVec.ofInt (IntKind.bits .u64) a ^^^ BitVec.ofInt (IntKind.bits .u64) b).toNat : Nat) : Int)
  have e : ixorI .u64 a b = wI .u64 (((BitVec.ofInt (IntKind.bits .u64) a ^^^ BitVec.ofInt (IntKind.bits .u64) b).toNat : Nat) : Int) := rfl
  rw [e, this]; omega
theorem finQ_rng (q : Arr4_Int) : 0 ≤ finQ q ∧ finQ q < 2 ^ 64 := ixor_rng _ _
theorem hashR_rng (T : Arr4_Int → Int → Arr4_Int) (fin : Arr4_Int → Int) (hf : ∀ q, 0 ≤ fin q ∧ fin q < 2 ^ 64) (n : Nat) : ∀ (k : Nat) (l : List UInt8) (q : Arr4_Int), l.length ≤ k → 0 ≤ hashR T fin n q l ∧ hashR T fin n q l < 2 ^ 64
  | 0, l, q, h => by
    rw [hashR, dif_neg (by omega)]; exact hf _
  | k + 1, l, q, h => by
    rw [hashR]
    split
    · exact hashR_rng T fin hf n k _ _ (by simp; omega)
    · exact hf _
end Go.Vm.Code
namespace Go.Vm.Code
open Go Go.Vm Go.Proofs
set_option maxRecDepth 100000
set_option maxHeartbeats 4000000
set_option linter.unusedVariables false
def octet_Reader_BadF (ra0 : octet_Reader) : Option (Bool × octet_Reader) :=
  cond (!ra0.made)
    (
    some ((true, ra0)))
    (
    some ((ra0.bad, ra0)))
def rx102 (x : Bool × octet_Reader) : SRes := ⟨.bool x.1, [], [some [.string ⟨⟨x.2.s⟩⟩, .bool x.2.made, .bool x.2.bad]]⟩
def r102 (g : octet_Reader → Option (Bool × octet_Reader)) : Dec := dPt 0 unoctet_Reader fun (y0 : octet_Reader) => dEnd (ofG (g y0) rx102)
theorem r102_c {g : octet_Reader → Option (Bool × octet_Reader)} {y0 : octet_Reader} {x : Bool × octet_Reader} (hx : g y0 = some x) : r102 g [.pointer (some ⟨0, 0, none⟩)] [some [.string ⟨⟨y0.s⟩⟩, .bool y0.made, .bool y0.bad]] = some (rx102 x) := (dPt_eq (unoctet_Reader_c _)).trans (ofG_eq hx)
def s102 (g : octet_Reader → Option (Bool × octet_Reader)) : Summ := ⟨[.pt 3], r102 g⟩
theorem r102_eq {g : octet_Reader → Option (Bool × octet_Reader)} {y0 : octet_Reader} {x : Bool × octet_Reader} (hx : g y0 = some x) : (s102 g).run [.pointer (some ⟨0, 0, none⟩)] [some [.string ⟨⟨y0.s⟩⟩, .bool y0.made, .bool y0.bad]] = some (rx102 x) := r102_c hx
abbrev sums102 : List (Nat × Summ) := []
theorem leads102 (hS : SumsOK Try.prog (aget (sums102))) (ra0 : octet_Reader) (res : Bool × octet_Reader) (h : octet_Reader_BadF ra0 = some res) :
    Leads Try.prog 102 1 ⟨⟨102, 18, [(0, .pointer (some ⟨0, 0, none⟩))], [.code k102_3], [], false, none⟩, [], [(0, .cells [.string ⟨⟨ra0.s⟩⟩, .bool ra0.made, .bool ra0.bad])], 1⟩ (fun v H _ => Res 1 (rx102 res) v H) := by
  unfold octet_Reader_BadF at h
  refine ev_ok tab_ok hS true 3000 ?_
  conv => whnf
  refine br.h h ?_ ?_ ?_
  · rfl
  · clear h; intro hb h; conv => whnf
    all_goals (cases h)
    all_goals exact Res.of [] rfl nw_0 (by decide) js_0 (wr_s (rfl) (hs_cells rfl) wr_0)
  clear h; intro hb h; conv => whnf
  all_goals (cases h)
  all_goals exact Res.of [] rfl nw_0 (by decide) js_0 (wr_s (rfl) (hs_cells rfl) wr_0)
theorem ok102 (hS : SumsOK Try.prog (aget (sums102))) : SumOK Try.prog 102 (s102 (octet_Reader_BadF)) := by
  refine SumOK.of_leads tab_ok (fun ar os r ha hr => ?_) ⟨Try.f102, rfl, by decide, rfl⟩
  replace hr : r102 (octet_Reader_BadF) ar (conts os) = some r := hr
  unfold r102 at hr
  generalize hc : conts os = C at hr
  have hq := dPt.elim hr; clear hr; obtain ⟨c0, l1, C, y0, rfl, rfl, e0, hr⟩ := hq; obtain rfl := unoctet_Reader_eq _ _ e0
  replace hr := dFin hr; obtain ⟨rfl, rfl, x, h, rfl⟩ := hr
  obtain ⟨os, rfl, ha, hc⟩ := kinds_some ha hc
  obtain rfl := kinds_nil hc
  exact ⟨_, rfl, leads102 hS _ x h⟩
def octet_Reader_Bad : octet_Reader → Option (Bool × octet_Reader) := octet_Reader_BadF
theorem lift102 : SumOK Try.prog 102 (s102 octet_Reader_Bad) := ok102 (SumsOK.of_tab trivial)
def octet_Reader_TextF (octet_Reader_Bad : octet_Reader → Option (Bool × octet_Reader)) (ra0 : octet_Reader) (n : Int) : Option ((List UInt8) × octet_Reader) :=
  (octet_Reader_Bad ra0).bind fun b =>
  cond (b.1)
    (
    some (([], b.2)))
    (
    cond (decide (n < 0))
      (
      some (([], octet_Reader.mk b.2.s b.2.made true)))
      (
      cond (decide (n > (b.2.s.length : Int)))
        (
        some (([], octet_Reader.mk b.2.s b.2.made true)))
        (
        oreq (decide ((0 : Int) ≤ n ∧ n ≤ (b.2.s.length : Int))) <|
        oreq (decide ((0 : Int) ≤ n ∧ n ≤ (b.2.s.length : Int))) <|
        let t := (b.2.s.drop n.toNat).take (b.2.s.length - n.toNat)
        some ((b.2.s.take n.toNat, octet_Reader.mk t b.2.made b.2.bad)))))
def rx97 (x : (List UInt8) × octet_Reader) : SRes := ⟨.string ⟨⟨x.1⟩⟩, [], [some [.string ⟨⟨x.2.s⟩⟩, .bool x.2.made, .bool x.2.bad]]⟩
def r97 (g : octet_Reader → Int → Option ((List UInt8) × octet_Reader)) : Dec := dPt 0 unoctet_Reader fun (y0 : octet_Reader) => dV (asI .i64) fun (y1 : Int) => dEnd (ofG (g y0 y1) rx97)
theorem r97_c {g : octet_Reader → Int → Option ((List UInt8) × octet_Reader)} {y0 : octet_Reader} {y1 : Int} {x : (List UInt8) × octet_Reader} (hx : g y0 y1 = some x) : r97 g [.pointer (some ⟨0, 0, none⟩), .int .i64 y1] [some [.string ⟨⟨y0.s⟩⟩, .bool y0.made, .bool y0.bad]] = some (rx97 x) := (dPt_eq (unoctet_Reader_c _)).trans ((dV_eq (asI_c _)).trans (ofG_eq hx))
def s97 (g : octet_Reader → Int → Option ((List UInt8) × octet_Reader)) : Summ := ⟨[.pt 3, .v], r97 g⟩
theorem r97_eq {g : octet_Reader → Int → Option ((List UInt8) × octet_Reader)} {y0 : octet_Reader} {y1 : Int} {x : (List UInt8) × octet_Reader} (hx : g y0 y1 = some x) : (s97 g).run [.pointer (some ⟨0, 0, none⟩), .int .i64 y1] [some [.string ⟨⟨y0.s⟩⟩, .bool y0.made, .bool y0.bad]] = some (rx97 x) := r97_c hx
abbrev sums97 (octet_Reader_Bad : octet_Reader → Option (Bool × octet_Reader)) : List (Nat × Summ) := [(102, s102 octet_Reader_Bad)]
theorem leads97 (octet_Reader_Bad : octet_Reader → Option (Bool × octet_Reader)) (hS : SumsOK Try.prog (aget (sums97 octet_Reader_Bad))) (ra0 : octet_Reader) (n : Int) (res : (List UInt8) × octet_Reader) (h : octet_Reader_TextF octet_Reader_Bad ra0 n = some res) :
    Leads Try.prog 97 1 ⟨⟨97, 38, [(0, .pointer (some ⟨0, 0, none⟩)), (1, .int .i64 n)], [.code k97_21], [], false, none⟩, [], [(0, .cells [.string ⟨⟨ra0.s⟩⟩, .bool ra0.made, .bool ra0.bad])], 1⟩ (fun v H _ => Res 1 (rx97 res) v H) := by
  unfold octet_Reader_TextF at h
  refine ev_ok tab_ok hS true 3000 ?_
  conv => whnf
  replace h := obind.elim h; obtain ⟨b, hy, h⟩ := h
  refine sumK.introF [0] (sumRun_of (aqs := [.pointer (some ⟨0, 0, none⟩)]) (ws := [.win 0 0 3 true]) (n := 0) (m := 0) (t' := 1) (ra_cons rfl rfl ra_nil) rfl (by rfl) (r102_eq hy) rfl rfl rfl rfl (wb_win rfl rfl rfl ⟨rfl, Nat.le_of_ble_eq_true rfl⟩ rfl rfl wb_nil) an_nil rfl) ?_
  conv => whnf
  refine br.h h ?_ ?_ ?_
  · rfl
  · clear h; intro hb h; conv => whnf
    all_goals (cases h)
    all_goals exact Res.of [] rfl nw_0 (by decide) js_0 (wr_s (rfl) (hs_cells rfl) wr_0)
  clear h; intro hb h; conv => whnf
  refine br.h h ?_ ?_ ?_
  · rfl
  · clear h; intro hb h; conv => whnf
    all_goals (cases h)
    all_goals exact Res.of [] rfl nw_0 (by decide) js_0 (wr_s (rfl) (hs_cells rfl) wr_0)
  clear h; intro hb h; conv => whnf
  refine br.h h ?_ ?_ ?_
  · rfl
  · clear h; intro hb h; conv => whnf
    all_goals (cases h)
    all_goals exact Res.of [] rfl nw_0 (by decide) js_0 (wr_s (rfl) (hs_cells rfl) wr_0)
  clear h; intro hb h; conv => whnf
  replace h := oreq.elim h; obtain ⟨hb, h⟩ := h
  first | (refine req.intro hb ?_; conv => whnf) | skip
  replace h := oreq.elim h; obtain ⟨hb, h⟩ := h
  first | (refine req.intro hb ?_; conv => whnf) | skip
  let t : List UInt8 := (b.2.s.drop n.toNat).take (b.2.s.length - n.toNat)
  all_goals (cases h)
  all_goals exact Res.of [] rfl nw_0 (by decide) js_0 (wr_s (rfl) (hs_cells rfl) wr_0)
theorem ok97 (octet_Reader_Bad : octet_Reader → Option (Bool × octet_Reader)) (hS : SumsOK Try.prog (aget (sums97 octet_Reader_Bad))) : SumOK Try.prog 97 (s97 (octet_Reader_TextF octet_Reader_Bad)) := by
  refine SumOK.of_leads tab_ok (fun ar os r ha hr => ?_) ⟨Try.f97, rfl, by decide, rfl⟩
  replace hr : r97 (octet_Reader_TextF octet_Reader_Bad) ar (conts os) = some r := hr
  unfold r97 at hr
  generalize hc : conts os = C at hr
  have hq := dPt.elim hr; clear hr; obtain ⟨c0, l1, C, y0, rfl, rfl, e0, hr⟩ := hq; obtain rfl := unoctet_Reader_eq _ _ e0
  replace hr := dV.elim hr; obtain ⟨v1, l2, y1, rfl, e1, hr⟩ := hr; obtain rfl := asI_eq _ _ _ e1
  replace hr := dFin hr; obtain ⟨rfl, rfl, x, h, rfl⟩ := hr
  obtain ⟨os, rfl, ha, hc⟩ := kinds_some ha hc
  obtain rfl := kinds_nil hc
  exact ⟨_, rfl, leads97 octet_Reader_Bad hS _ _ x h⟩
def octet_Reader_Text : octet_Reader → Int → Option ((List UInt8) × octet_Reader) := octet_Reader_TextF octet_Reader_Bad
theorem lift97 : SumOK Try.prog 97 (s97 octet_Reader_Text) := ok97 octet_Reader_Bad (SumsOK.of_tab ⟨lift102, trivial⟩)
def octet_Reader_NumF (octet_Get : (List UInt8) → Int → Int → Option (Int × Bool)) (octet_Reader_Text : octet_Reader → Int → Option ((List UInt8) × octet_Reader)) (ra0 : octet_Reader) (k : Int) : Option (Int × octet_Reader) :=
  cond (decide (k < 1))
    (
    (octet_Reader_Text ra0 (-1)).bind fun t =>
    (octet_Get t.1 0 (-1)).bind fun xg =>
    some ((wI .i64 xg.1, t.2)))
    (
    cond (decide (k > 7))
      (
      (octet_Reader_Text ra0 (-1)).bind fun t1 =>
      (octet_Get t1.1 0 (-1)).bind fun xg1 =>
      some ((wI .i64 xg1.1, t1.2)))
      (
      (octet_Reader_Text ra0 k).bind fun t2 =>
      (octet_Get t2.1 0 k).bind fun xg2 =>
      some ((wI .i64 xg2.1, t2.2))))
def rx100 (x : Int × octet_Reader) : SRes := ⟨.int .i64 x.1, [], [some [.string ⟨⟨x.2.s⟩⟩, .bool x.2.made, .bool x.2.bad]]⟩
def r100 (g : octet_Reader → Int → Option (Int × octet_Reader)) : Dec := dPt 0 unoctet_Reader fun (y0 : octet_Reader) => dV (asI .i64) fun (y1 : Int) => dEnd (ofG (g y0 y1) rx100)
theorem r100_c {g : octet_Reader → Int → Option (Int × octet_Reader)} {y0 : octet_Reader} {y1 : Int} {x : Int × octet_Reader} (hx : g y0 y1 = some x) : r100 g [.pointer (some ⟨0, 0, none⟩), .int .i64 y1] [some [.string ⟨⟨y0.s⟩⟩, .bool y0.made, .bool y0.bad]] = some (rx100 x) := (dPt_eq (unoctet_Reader_c _)).trans ((dV_eq (asI_c _)).trans (ofG_eq hx))
def s100 (g : octet_Reader → Int → Option (Int × octet_Reader)) : Summ := ⟨[.pt 3, .v], r100 g⟩
theorem r100_eq {g : octet_Reader → Int → Option (Int × octet_Reader)} {y0 : octet_Reader} {y1 : Int} {x : Int × octet_Reader} (hx : g y0 y1 = some x) : (s100 g).run [.pointer (some ⟨0, 0, none⟩), .int .i64 y1] [some [.string ⟨⟨y0.s⟩⟩, .bool y0.made, .bool y0.bad]] = some (rx100 x) := r100_c hx
abbrev sums100 (octet_Get : (List UInt8) → Int → Int → Option (Int × Bool)) (octet_Reader_Text : octet_Reader → Int → Option ((List UInt8) × octet_Reader)) : List (Nat × Summ) := [(99, s99 octet_Get), (97, s97 octet_Reader_Text)]
theorem leads100 (octet_Get : (List UInt8) → Int → Int → Option (Int × Bool)) (octet_Reader_Text : octet_Reader → Int → Option ((List UInt8) × octet_Reader)) (hS : SumsOK Try.prog (aget (sums100 octet_Get octet_Reader_Text))) (ra0 : octet_Reader) (k : Int) (res : Int × octet_Reader) (h : octet_Reader_NumF octet_Get octet_Reader_Text ra0 k = some res) :
    Leads Try.prog 100 1 ⟨⟨100, 23, [(0, .pointer (some ⟨0, 0, none⟩)), (1, .int .i64 k)], [.code k100_10], [], false, none⟩, [], [(0, .cells [.string ⟨⟨ra0.s⟩⟩, .bool ra0.made, .bool ra0.bad])], 1⟩ (fun v H _ => Res 1 (rx100 res) v H) := by
  unfold octet_Reader_NumF at h
  refine ev_ok tab_ok hS true 3000 ?_
  conv => whnf
  refine br.h h ?_ ?_ ?_
  · rfl
  · clear h; intro hb h; conv => whnf
    replace h := obind.elim h; obtain ⟨t, hy, h⟩ := h
    refine sumK.introF [0] (sumRun_of (aqs := [.pointer (some ⟨0, 0, none⟩), .int .i64 (-1)]) (ws := [.win 0 0 3 true]) (n := 0) (m := 0) (t' := 1) (ra_cons rfl rfl (ra_cons rfl rfl ra_nil)) rfl (by rfl) (r97_eq hy) rfl rfl rfl rfl (wb_win rfl rfl rfl ⟨rfl, Nat.le_of_ble_eq_true rfl⟩ rfl rfl wb_nil) an_nil rfl) ?_
    conv => whnf
    replace h := obind.elim h; obtain ⟨xg, hy, h⟩ := h
    refine sumK.q rfl rfl (r99_eq hy) rfl rfl rfl ?_
    conv => whnf
    all_goals (cases h)
    all_goals exact Res.of [] rfl nw_0 (by decide) js_0 (wr_s (rfl) (hs_cells rfl) wr_0)
  clear h; intro hb h; conv => whnf
  refine br.h h ?_ ?_ ?_
  · rfl
  · clear h; intro hb h; conv => whnf
    replace h := obind.elim h; obtain ⟨t1, hy, h⟩ := h
    refine sumK.introF [0] (sumRun_of (aqs := [.pointer (some ⟨0, 0, none⟩), .int .i64 (-1)]) (ws := [.win 0 0 3 true]) (n := 0) (m := 0) (t' := 1) (ra_cons rfl rfl (ra_cons rfl rfl ra_nil)) rfl (by rfl) (r97_eq hy) rfl rfl rfl rfl (wb_win rfl rfl rfl ⟨rfl, Nat.le_of_ble_eq_true rfl⟩ rfl rfl wb_nil) an_nil rfl) ?_
    conv => whnf
    replace h := obind.elim h; obtain ⟨xg1, hy, h⟩ := h
    refine sumK.q rfl rfl (r99_eq hy) rfl rfl rfl ?_
    conv => whnf
    all_goals (cases h)
    all_goals exact Res.of [] rfl nw_0 (by decide) js_0 (wr_s (rfl) (hs_cells rfl) wr_0)
  clear h; intro hb h; conv => whnf
  replace h := obind.elim h; obtain ⟨t2, hy, h⟩ := h
  refine sumK.introF [0] (sumRun_of (aqs := [.pointer (some ⟨0, 0, none⟩), .int .i64 k]) (ws := [.win 0 0 3 true]) (n := 0) (m := 0) (t' := 1) (ra_cons rfl rfl (ra_cons rfl rfl ra_nil)) rfl (by rfl) (r97_eq hy) rfl rfl rfl rfl (wb_win rfl rfl rfl ⟨rfl, Nat.le_of_ble_eq_true rfl⟩ rfl rfl wb_nil) an_nil rfl) ?_
  conv => whnf
  replace h := obind.elim h; obtain ⟨xg2, hy, h⟩ := h
  refine sumK.q rfl rfl (r99_eq hy) rfl rfl rfl ?_
  conv => whnf
  all_goals (cases h)
  all_goals exact Res.of [] rfl nw_0 (by decide) js_0 (wr_s (rfl) (hs_cells rfl) wr_0)
theorem ok100 (octet_Get : (List UInt8) → Int → Int → Option (Int × Bool)) (octet_Reader_Text : octet_Reader → Int → Option ((List UInt8) × octet_Reader)) (hS : SumsOK Try.prog (aget (sums100 octet_Get octet_Reader_Text))) : SumOK Try.prog 100 (s100 (octet_Reader_NumF octet_Get octet_Reader_Text)) := by
  refine SumOK.of_leads tab_ok (fun ar os r ha hr => ?_) ⟨Try.f100, rfl, by decide, rfl⟩
  replace hr : r100 (octet_Reader_NumF octet_Get octet_Reader_Text) ar (conts os) = some r := hr
  unfold r100 at hr
  generalize hc : conts os = C at hr
  have hq := dPt.elim hr; clear hr; obtain ⟨c0, l1, C, y0, rfl, rfl, e0, hr⟩ := hq; obtain rfl := unoctet_Reader_eq _ _ e0
  replace hr := dV.elim hr; obtain ⟨v1, l2, y1, rfl, e1, hr⟩ := hr; obtain rfl := asI_eq _ _ _ e1
  replace hr := dFin hr; obtain ⟨rfl, rfl, x, h, rfl⟩ := hr
  obtain ⟨os, rfl, ha, hc⟩ := kinds_some ha hc
  obtain rfl := kinds_nil hc
  exact ⟨_, rfl, leads100 octet_Get octet_Reader_Text hS _ _ x h⟩
def octet_Reader_Num : octet_Reader → Int → Option (Int × octet_Reader) := octet_Reader_NumF octet_Get octet_Reader_Text
theorem lift100 : SumOK Try.prog 100 (s100 octet_Reader_Num) := ok100 octet_Get octet_Reader_Text (SumsOK.of_tab ⟨lift99, lift97, trivial⟩)
def octet_NewF (s : List UInt8) : Option octet_Reader :=
  some (octet_Reader.mk s true false)
def rx96 (x : octet_Reader) : SRes := ⟨.pointer (some ⟨0, 0, none⟩), [[.string ⟨⟨x.s⟩⟩, .bool x.made, .bool x.bad]], []⟩
def r96 (g : (List UInt8) → Option octet_Reader) : Dec := dV asS fun (y0 : List UInt8) => dEnd (ofG (g y0) rx96)
theorem r96_c {g : (List UInt8) → Option octet_Reader} {y0 : List UInt8} {x : octet_Reader} (hx : g y0 = some x) : r96 g [.string ⟨⟨y0⟩⟩] [] = some (rx96 x) := (dV_eq (asS_c)).trans (ofG_eq hx)
def s96 (g : (List UInt8) → Option octet_Reader) : Summ := ⟨[.v], r96 g⟩
theorem r96_eq {g : (List UInt8) → Option octet_Reader} {y0 : List UInt8} {x : octet_Reader} (hx : g y0 = some x) : (s96 g).run [.string ⟨⟨y0⟩⟩] [] = some (rx96 x) := r96_c hx
abbrev sums96 : List (Nat × Summ) := []
theorem leads96 (hS : SumsOK Try.prog (aget (sums96))) (s : List UInt8) (res : octet_Reader) (h : octet_NewF s = some res) :
    Leads Try.prog 96 0 ⟨⟨96, 6, [(0, .string ⟨⟨s⟩⟩)], [.code k96_3], [], false, none⟩, [], [], 0⟩ (fun v H _ => Res 0 (rx96 res) v H) := by
  unfold octet_NewF at h
  refine ev_ok tab_ok hS true 3000 ?_
  conv => whnf
  all_goals (cases h)
  all_goals exact Res.of [0] rfl (nw_s (rfl) (hs_cells rfl) nw_0) (by decide) (js_l (by decide) js_0) wr_0
theorem ok96 (hS : SumsOK Try.prog (aget (sums96))) : SumOK Try.prog 96 (s96 (octet_NewF)) := by
  refine SumOK.of_leads tab_ok (fun ar os r ha hr => ?_) ⟨Try.f96, rfl, by decide, rfl⟩
  replace hr : r96 (octet_NewF) ar (conts os) = some r := hr
  unfold r96 at hr
  generalize hc : conts os = C at hr
  replace hr := dV.elim hr; obtain ⟨v0, l1, y0, rfl, e0, hr⟩ := hr; obtain rfl := asS_eq _ _ e0
  replace hr := dFin hr; obtain ⟨rfl, rfl, x, h, rfl⟩ := hr
  obtain rfl := kinds_nil hc
  exact ⟨_, rfl, leads96 hS _ x h⟩
def octet_New : (List UInt8) → Option octet_Reader := octet_NewF
theorem lift96 : SumOK Try.prog 96 (s96 octet_New) := ok96 (SumsOK.of_tab trivial)
end Go.Vm.Code
namespace Go.Vm.Code
open Go Go.Vm
def rdr (r : octet_Reader) (k : Int) : octet_Reader := if r.bad = true ∨ k < 0 ∨ k > r.s.length then ⟨r.s, true, true⟩ else ⟨r.s.drop k.toNat, true, false⟩
def rdt (r : octet_Reader) (k : Int) : List UInt8 := if r.bad = true ∨ k < 0 ∨ k > r.s.length then [] else r.s.take k.toNat
theorem rBad_eq {r : octet_Reader} (h : r.made = true) : octet_Reader_Bad r = some (r.bad, r) := by
  unfold octet_Reader_Bad octet_Reader_BadF
  rw [h]; rfl
theorem rText_eq {r : octet_Reader} {k : Int} (h : r.made = true) : octet_Reader_Text r k = some (rdt r k, rdr r k) := by
  unfold octet_Reader_Text octet_Reader_TextF rdt rdr
  rw [rBad_eq h, Option.bind_some]
  simp only []
  obtain ⟨s, m, b⟩ := r
  simp only at h ⊢
  subst h
  cases b with
  | true => simp
  | false =>
    rw [cond_false]
    by_cases h1 : k < 0
    · rw [cond_p h1, if_pos (by omega), if_pos (by omega)]
    rw [cond_n h1]
    by_cases h2 : k > s.length
    · rw [cond_p h2, if_pos (by omega), if_pos (by omega)]
    · have e : (s.drop k.toNat).take (s.length - k.toNat) = s.drop k.toNat := List.take_of_length_le (by simp)
      rw [cond_n h2, oreq_p (by omega), oreq_p (by omega), if_neg (by simp; omega), if_neg (by simp; omega), e]
theorem rdr_made (r : octet_Reader) (k : Int) : (rdr r k).made = true := by unfold rdr; split <;> rfl
theorem rdr_ok {s : List UInt8} {k : Int} (h0 : 0 ≤ k) (h1 : k ≤ s.length) : rdr ⟨s, true, false⟩ k = ⟨s.drop k.toNat, true, false⟩ := by
  unfold rdr; rw [if_neg (by simp; omega)]
theorem rdt_ok {s : List UInt8} {k : Int} (h0 : 0 ≤ k) (h1 : k ≤ s.length) : rdt ⟨s, true, false⟩ k = s.take k.toNat := by
  unfold rdt; rw [if_neg (by simp; omega)]
theorem rdt_len (r : octet_Reader) (k : Int) : (rdt r k).length ≤ r.s.length := by
  unfold rdt; split
  · simp
  · rw [List.length_take]; omega
def rdn (r : octet_Reader) (k : Int) : Int := (valL (rdt r (if k < 1 ∨ k > 7 then -1 else k)) : Nat)
theorem rNum_eq {r : octet_Reader} {k : Int} (h : r.made = true) (hl : r.s.length < 2 ^ 61) : octet_Reader_Num r k = some (rdn r k, rdr r (if k < 1 ∨ k > 7 then -1 else k)) := by
  unfold octet_Reader_Num octet_Reader_NumF rdn
  have bad : octet_Reader_Text r (-1) = some ([], rdr r (-1)) := by
    rw [rText_eq h]; unfold rdt; rw [if_pos (by omega)]
  have e0 : rdt r (-1) = [] := by unfold rdt; rw [if_pos (by omega)]
  by_cases h1 : k < 1
  · rw [cond_p h1, bad, Option.bind_some, octet_Get_eq (by simp), if_pos (by omega), Option.bind_some, e0]; rfl
  rw [cond_n h1]
  by_cases h2 : k > 7
  · rw [cond_p h2, bad, Option.bind_some, octet_Get_eq (by simp), if_pos (by omega), Option.bind_some, e0]; rfl
  have hlen := rdt_len r k
  rw [cond_n h2, rText_eq h, Option.bind_some, octet_Get_eq (by simp only []; omega), Option.bind_some, if_neg (by omega)]
  simp only []
  unfold getS
  by_cases hc : r.bad = true ∨ k < 0 ∨ k > r.s.length
  · have e : rdt r k = [] := by unfold rdt; rw [if_pos hc]
    rw [e, if_neg (by simp; omega)]; rfl
  · have hl2 : (rdt r k).length = k.toNat := by unfold rdt; rw [if_neg hc]; simp; omega
    rw [if_pos (by omega)]
    have e2 : ((rdt r k).drop (0 : Int).toNat).take k.toNat = rdt r k := by
      rw [show (0 : Int).toNat = 0 from rfl, List.drop_zero, List.take_of_length_le (by omega)]
    have hv : valL (rdt r k) < 2 ^ 56 := by
      have := val_lt (rdt r k)
      rw [hl2] at this
      exact pow_step this (by omega)
    simp only [e2]
    rw [wI64 (by omega) (by omega)]
theorem getS_at {s : List UInt8} {p k : Int} (h0 : 0 ≤ p) (h1 : 1 ≤ k) (h8 : k ≤ 8) (h : p + k ≤ s.length) : getS s p k = (((valL ((s.drop p.toNat).take k.toNat) : Nat) : Int), true) := by
  unfold getS; rw [if_pos (by omega)]
theorem rNew_eq (s : List UInt8) : octet_New s = some ⟨s, true, false⟩ := rfl
end Go.Vm.Code
namespace Go.Vm.Code
open Go Go.Vm Go.Proofs
set_option maxRecDepth 100000
set_option maxHeartbeats 4000000
set_option linter.unusedVariables false
def saved_Right_s1 (addr_Right : api_Addr → Option Bool) (ra0 : saved_Record) (t8 : Int) (c : Int) : Option (Sum (Int × Int) Bool) :=
  cond (decide (t8 < (ra0.L.length : Int)))
    (
    oreq (decide ((0 : Int) ≤ t8 ∧ t8 < (ra0.L.length : Int))) <|
    (ra0.L[t8.toNat]?).bind fun (e : api_Backend) =>
    cond (e.State == 1)
      (
      cond (decide (e.ID ≤ c))
        (
        some (.inr (!(decide (t8 ≥ 0)))))
        (
        cond (decide (e.ID > ra0.Last))
          (
          some (.inr (!(decide (t8 ≥ 0)))))
          (
          cond (decide (e.Weight < 0))
            (
            some (.inr (!(decide (t8 ≥ 0)))))
            (
            cond (decide (e.Weight > 1000))
              (
              some (.inr (!(decide (t8 ≥ 0)))))
              (
              (addr_Right e.Addr).bind fun xr =>
              cond (!xr)
                (
                some (.inr (!(decide (t8 ≥ 0)))))
                (
                some (.inl (wI .i64 (t8 + 1), e.ID))))))))
      (
      cond (decide (e.ID ≤ c))
        (
        some (.inr (!(decide (t8 ≥ 0)))))
        (
        cond (decide (e.ID > ra0.Last))
          (
          some (.inr (!(decide (t8 ≥ 0)))))
          (
          cond (decide (e.Weight < 0))
            (
            some (.inr (!(decide (t8 ≥ 0)))))
            (
            cond (decide (e.Weight > 1000))
              (
              some (.inr (!(decide (t8 ≥ 0)))))
              (
              cond (!(e.State == 3))
                (
                some (.inr (!(decide (t8 ≥ 0)))))
                (
                (addr_Right e.Addr).bind fun xr1 =>
                cond (!xr1)
                  (
                  some (.inr (!(decide (t8 ≥ 0)))))
                  (
                  some (.inl (wI .i64 (t8 + 1), e.ID))))))))))
    (
    some (.inr (true)))
def saved_RightF (addr_Right : api_Addr → Option Bool) (ra0 : saved_Record) : Option Bool :=
  cond (decide (ra0.Last ≥ 0))
    (
    cond (decide (ra0.Last ≤ 65535))
      (
      cond (decide ((ra0.L.length : Int) ≤ 64))
        (
        iter (fun st => saved_Right_s1 addr_Right ra0 st.1 st.2) FUEL (0, 0))
        (
        some (false)))
      (
      some (false)))
    (
    some (false))
def rx56 (x : Bool) : SRes := ⟨.bool x, [], [none]⟩
def r56 (g : saved_Record → Option Bool) : Dec := dTr 1 (udsaved_Record 0) fun (y0 : saved_Record) => dEnd (ofG (g y0) rx56)
theorem r56_c {g : saved_Record → Option Bool} {y0 : saved_Record} {x : Bool} (hx : g y0 = some x) : r56 g [.agg ⟨[.int .u64 y0.Key.A, .int .u64 y0.Key.B, .int .i64 y0.Last, .slice (some ⟨0, 0, none⟩) y0.L.length 6]⟩] [some (vT capi_Backend y0.L)] = some (rx56 x) := (dTr_eq rfl rfl (udsaved_Record_c 0 _)).trans (ofG_eq hx)
def s56 (g : saved_Record → Option Bool) : Summ := ⟨[.tr [⟨none, 3, 0, 0, some 6⟩]], r56 g⟩
theorem r56_eq {g : saved_Record → Option Bool} {y0 : saved_Record} {x : Bool} (hx : g y0 = some x) : (s56 g).run [.agg ⟨[.int .u64 y0.Key.A, .int .u64 y0.Key.B, .int .i64 y0.Last, .slice (some ⟨0, 0, none⟩) y0.L.length 6]⟩] [some (vT capi_Backend y0.L)] = some (rx56 x) := r56_c hx
abbrev sums56 (addr_Right : api_Addr → Option Bool) : List (Nat × Summ) := [(82, s82 addr_Right)]
def head56_1 (ra0 : saved_Record) (t8 : Int) (c : Int) : VM :=
  ⟨⟨139, 19, [(0, .slice (some ⟨0, 0, none⟩) ra0.L.length 6), (1, .func (.func 113) ⟨[]⟩ ⟨[.pointer (some ⟨2, 0, none⟩), .pointer (some ⟨1, 0, none⟩)]⟩), (7, .int .i64 (ra0.L.length : Int)), (8, .int .i64 t8)], [.code k139_15, .inLoop k139_15, .inBlock 0, .code k139_20], [], false, none⟩, [⟨114, 9, [], [.inReg (opsD k114_1 2), .code .ret], [], false, none⟩, ⟨56, 27, [(20, .bool true)], [.inReg (opsD k56_3 18), .code .ret], [], false, none⟩], [(0, .row false (vT capi_Backend ra0.L)), (1, .cells [.int .u64 ra0.Key.A, .int .u64 ra0.Key.B, .int .i64 ra0.Last, .slice (some ⟨0, 0, none⟩) ra0.L.length 6]), (2, .cells [.int .i64 c])], 3⟩
theorem loop56_1 (addr_Right : api_Addr → Option Bool) (hS : SumsOK Try.prog (aget (sums56 addr_Right))) (ra0 : saved_Record) (res : Bool) : ∀ fuel (st : Int × Int) (o : Bool), iter (fun st => saved_Right_s1 addr_Right ra0 st.1 st.2) fuel st = some o → (o = res) →
    Leads Try.prog 56 1 (head56_1 ra0 st.1 st.2) (fun v H _ => Res 1 (rx56 res) v H) := by
  intro fuel st o h hc
  refine iter_leads (head := fun st => head56_1 ra0 st.1 st.2) (C := fun o => (o = res)) ?_ fuel st o h hc
  clear h hc o st fuel
  intro st o h hc
  obtain ⟨t8, c⟩ := st
  replace h : saved_Right_s1 addr_Right ra0 t8 c = some o := h
  show Leads Try.prog 56 1 (head56_1 ra0 t8 c) (fun v H _ => Res 1 (rx56 res) v H)
  unfold saved_Right_s1 at h
  refine ev_ok tab_ok hS true 3000 ?_
  conv => whnf
  refine br.h2 h ?_ ?_ ?_
  · rfl
  · clear h; intro hb h; conv => whnf
    all_goals (cases h; cases hc)
    all_goals exact Res.of [] rfl nw_0 (by decide) js_0 (wr_n wr_0)
  clear h; intro hb h; conv => whnf
  replace h := oreq.elim h; obtain ⟨hb, h⟩ := h
  first | (refine req.intro hb ?_; conv => whnf) | skip
  replace h := obind.elim h; obtain ⟨e, hy, h⟩ := h
  refine ld_T capi_Backend_len hy (by first | omega | exact Nat.zero_add _ | exact congrArg (· + _) (Nat.zero_add _)) rfl ?_
  conv => whnf
  refine br.h h ?_ ?_ ?_
  · rfl
  · clear h; intro hb h; conv => whnf
    refine br.h h ?_ ?_ ?_
    · rfl
    · clear h; intro hb h; conv => whnf
      all_goals (cases h; cases hc)
      all_goals exact Res.of [] rfl nw_0 (by decide) js_0 (wr_n wr_0)
    clear h; intro hb h; conv => whnf
    refine br.h h ?_ ?_ ?_
    · rfl
    · clear h; intro hb h; conv => whnf
      all_goals (cases h; cases hc)
      all_goals exact Res.of [] rfl nw_0 (by decide) js_0 (wr_n wr_0)
    clear h; intro hb h; conv => whnf
    refine br.h h ?_ ?_ ?_
    · rfl
    · clear h; intro hb h; conv => whnf
      all_goals (cases h; cases hc)
      all_goals exact Res.of [] rfl nw_0 (by decide) js_0 (wr_n wr_0)
    clear h; intro hb h; conv => whnf
    refine br.h h ?_ ?_ ?_
    · rfl
    · clear h; intro hb h; conv => whnf
      all_goals (cases h; cases hc)
      all_goals exact Res.of [] rfl nw_0 (by decide) js_0 (wr_n wr_0)
    clear h; intro hb h; conv => whnf
    replace h := obind.elim h; obtain ⟨xr, hy, h⟩ := h
    refine sumK.q rfl rfl (r82_eq hy) rfl rfl rfl ?_
    conv => whnf
    refine br.h h ?_ ?_ ?_
    · rfl
    · clear h; intro hb h; conv => whnf
      all_goals (cases h; cases hc)
      all_goals exact Res.of [] rfl nw_0 (by decide) js_0 (wr_n wr_0)
    clear h; intro hb h; conv => whnf
    cases h; simp only [Sum.elim_inl, head56_1] at hc
    exact lrA1 hc [(0, 0), (1, 1), (2, 2)] rfl
  clear h; intro hb h; conv => whnf
  refine br.h h ?_ ?_ ?_
  · rfl
  · clear h; intro hb h; conv => whnf
    all_goals (cases h; cases hc)
    all_goals exact Res.of [] rfl nw_0 (by decide) js_0 (wr_n wr_0)
  clear h; intro hb h; conv => whnf
  refine br.h h ?_ ?_ ?_
  · rfl
  · clear h; intro hb h; conv => whnf
    all_goals (cases h; cases hc)
    all_goals exact Res.of [] rfl nw_0 (by decide) js_0 (wr_n wr_0)
  clear h; intro hb h; conv => whnf
  refine br.h h ?_ ?_ ?_
  · rfl
  · clear h; intro hb h; conv => whnf
    all_goals (cases h; cases hc)
    all_goals exact Res.of [] rfl nw_0 (by decide) js_0 (wr_n wr_0)
  clear h; intro hb h; conv => whnf
  refine br.h h ?_ ?_ ?_
  · rfl
  · clear h; intro hb h; conv => whnf
    all_goals (cases h; cases hc)
    all_goals exact Res.of [] rfl nw_0 (by decide) js_0 (wr_n wr_0)
  clear h; intro hb h; conv => whnf
  refine br.h h ?_ ?_ ?_
  · rfl
  · clear h; intro hb h; conv => whnf
    all_goals (cases h; cases hc)
    all_goals exact Res.of [] rfl nw_0 (by decide) js_0 (wr_n wr_0)
  clear h; intro hb h; conv => whnf
  replace h := obind.elim h; obtain ⟨xr1, hy, h⟩ := h
  refine sumK.q rfl rfl (r82_eq hy) rfl rfl rfl ?_
  conv => whnf
  refine br.h h ?_ ?_ ?_
  · rfl
  · clear h; intro hb h; conv => whnf
    all_goals (cases h; cases hc)
    all_goals exact Res.of [] rfl nw_0 (by decide) js_0 (wr_n wr_0)
  clear h; intro hb h; conv => whnf
  cases h; simp only [Sum.elim_inl, head56_1] at hc
  exact lrA1 hc [(0, 0), (1, 1), (2, 2)] rfl
theorem leads56 (addr_Right : api_Addr → Option Bool) (hS : SumsOK Try.prog (aget (sums56 addr_Right))) (ra0 : saved_Record) (res : Bool) (h : saved_RightF addr_Right ra0 = some res) :
    Leads Try.prog 56 1 ⟨⟨56, 27, [(0, .agg ⟨[.int .u64 ra0.Key.A, .int .u64 ra0.Key.B, .int .i64 ra0.Last, .slice (some ⟨0, 0, none⟩) ra0.L.length 6]⟩)], [.code k56_7], [], false, none⟩, [], [(0, .row false (vT capi_Backend ra0.L))], 1⟩ (fun v H _ => Res 1 (rx56 res) v H) := by
  unfold saved_RightF at h
  refine ev_ok tab_ok hS true 3000 ?_
  conv => whnf
  refine br.h2 h ?_ ?_ ?_
  · rfl
  · clear h; intro hb h; conv => whnf
    all_goals (cases h)
    all_goals exact Res.of [] rfl nw_0 (by decide) js_0 (wr_n wr_0)
  clear h; intro hb h; conv => whnf
  refine br.h2 h ?_ ?_ ?_
  · rfl
  · clear h; intro hb h; conv => whnf
    all_goals (cases h)
    all_goals exact Res.of [] rfl nw_0 (by decide) js_0 (wr_n wr_0)
  clear h; intro hb h; conv => whnf
  refine br.h h ?_ ?_ ?_
  · rfl
  · clear h; intro hb h; conv => whnf
    have hl := loop56_1 addr_Right hS _ res _ _ _ h rfl; simp only [head56_1] at hl
    exact lrA1 hl [(0, 0), (1, 1), (2, 2)] rfl
  clear h; intro hb h; conv => whnf
  all_goals (cases h)
  all_goals exact Res.of [] rfl nw_0 (by decide) js_0 (wr_n wr_0)
theorem ok56 (addr_Right : api_Addr → Option Bool) (hS : SumsOK Try.prog (aget (sums56 addr_Right))) : SumOK Try.prog 56 (s56 (saved_RightF addr_Right)) := by
  refine SumOK.of_leads tab_ok (fun ar os r ha hr => ?_) ⟨Try.f56, rfl, by decide, rfl⟩
  replace hr : r56 (saved_RightF addr_Right) ar (conts os) = some r := hr
  unfold r56 at hr
  generalize hc : conts os = C at hr
  have hq := dTr.elim hr; clear hr; obtain ⟨v0, l1, c0, C, y0, rfl, rfl, e0, hr⟩ := hq; obtain ⟨rfl, rfl⟩ := udsaved_Record_eq e0; simp only [List.nil_append, List.cons_append] at hc
  replace hr := dFin hr; obtain ⟨rfl, rfl, x, h, rfl⟩ := hr
  obtain ⟨os, rfl, ha, hc⟩ := kinds_some ha hc
  obtain rfl := kinds_nil hc
  exact ⟨_, rfl, leads56 addr_Right hS _ x h⟩
def saved_Right : saved_Record → Option Bool := saved_RightF addr_Right
theorem lift56 : SumOK Try.prog 56 (s56 saved_Right) := ok56 addr_Right (SumsOK.of_tab ⟨lift82, trivial⟩)
def R55_Right_s1 (R04_Right : api_Addr → Option Bool) (ra0 : saved_Record) (last : Int) (i : Int) : Option (Sum (Int × Int) Bool) :=
  cond (decide (i < (ra0.L.length : Int)))
    (
    oreq (decide ((0 : Int) ≤ i ∧ i < (ra0.L.length : Int))) <|
    (ra0.L[i.toNat]?).bind fun (e : api_Backend) =>
    cond (decide (e.ID ≤ last))
      (
      some (.inr (false)))
      (
      cond (decide (e.ID > ra0.Last))
        (
        some (.inr (false)))
        (
        cond (decide (e.Weight < 0))
          (
          some (.inr (false)))
          (
          cond (decide (e.Weight > 1000))
            (
            some (.inr (false)))
            (
            cond (e.State != 1)
              (
              cond (e.State != 3)
                (
                some (.inr (false)))
                (
                (R04_Right e.Addr).bind fun xr =>
                cond (!xr)
                  (
                  some (.inr (false)))
                  (
                  some (.inl (e.ID, wI .i64 (i + 1))))))
              (
              (R04_Right e.Addr).bind fun xr1 =>
              cond (!xr1)
                (
                some (.inr (false)))
                (
                some (.inl (e.ID, wI .i64 (i + 1))))))))))
    (
    some (.inr (true)))
def R55_RightF (R04_Right : api_Addr → Option Bool) (ra0 : saved_Record) : Option Bool :=
  cond (decide (ra0.Last < 0))
    (
    some (false))
    (
    cond (decide (ra0.Last > 65535))
      (
      some (false))
      (
      cond (decide ((ra0.L.length : Int) > 64))
        (
        some (false))
        (
        iter (fun st => R55_Right_s1 R04_Right ra0 st.1 st.2) FUEL (0, 0))))
def rx57 (x : Bool) : SRes := ⟨.bool x, [], [none]⟩
def r57 (g : saved_Record → Option Bool) : Dec := dTr 1 (udsaved_Record 0) fun (y0 : saved_Record) => dEnd (ofG (g y0) rx57)
theorem r57_c {g : saved_Record → Option Bool} {y0 : saved_Record} {x : Bool} (hx : g y0 = some x) : r57 g [.agg ⟨[.int .u64 y0.Key.A, .int .u64 y0.Key.B, .int .i64 y0.Last, .slice (some ⟨0, 0, none⟩) y0.L.length 6]⟩] [some (vT capi_Backend y0.L)] = some (rx57 x) := (dTr_eq rfl rfl (udsaved_Record_c 0 _)).trans (ofG_eq hx)
def s57 (g : saved_Record → Option Bool) : Summ := ⟨[.tr [⟨none, 3, 0, 0, some 6⟩]], r57 g⟩
theorem r57_eq {g : saved_Record → Option Bool} {y0 : saved_Record} {x : Bool} (hx : g y0 = some x) : (s57 g).run [.agg ⟨[.int .u64 y0.Key.A, .int .u64 y0.Key.B, .int .i64 y0.Last, .slice (some ⟨0, 0, none⟩) y0.L.length 6]⟩] [some (vT capi_Backend y0.L)] = some (rx57 x) := r57_c hx
abbrev sums57 (R04_Right : api_Addr → Option Bool) : List (Nat × Summ) := [(115, s115 R04_Right)]
def head57_1 (ra0 : saved_Record) (last : Int) (i : Int) : VM :=
  ⟨⟨57, 71, [(1, .pointer (some ⟨1, 0, none⟩)), (3, .int .i64 last), (4, .int .i64 i)], [.code k57_23, .inLoop k57_23, .inBlock 0, .code k57_28], [], false, none⟩, [], [(0, .row false (vT capi_Backend ra0.L)), (1, .cells [.int .u64 ra0.Key.A, .int .u64 ra0.Key.B, .int .i64 ra0.Last, .slice (some ⟨0, 0, none⟩) ra0.L.length 6])], 2⟩
theorem loop57_1 (R04_Right : api_Addr → Option Bool) (hS : SumsOK Try.prog (aget (sums57 R04_Right))) (ra0 : saved_Record) (res : Bool) : ∀ fuel (st : Int × Int) (o : Bool), iter (fun st => R55_Right_s1 R04_Right ra0 st.1 st.2) fuel st = some o → (o = res) →
    Leads Try.prog 57 1 (head57_1 ra0 st.1 st.2) (fun v H _ => Res 1 (rx57 res) v H) := by
  intro fuel st o h hc
  refine iter_leads (head := fun st => head57_1 ra0 st.1 st.2) (C := fun o => (o = res)) ?_ fuel st o h hc
  clear h hc o st fuel
  intro st o h hc
  obtain ⟨last, i⟩ := st
  replace h : R55_Right_s1 R04_Right ra0 last i = some o := h
  show Leads Try.prog 57 1 (head57_1 ra0 last i) (fun v H _ => Res 1 (rx57 res) v H)
  unfold R55_Right_s1 at h
  refine ev_ok tab_ok hS true 3000 ?_
  conv => whnf
  refine br.h2 h ?_ ?_ ?_
  · rfl
  · clear h; intro hb h; conv => whnf
    all_goals (cases h; cases hc)
    all_goals exact Res.of [] rfl nw_0 (by decide) js_0 (wr_n wr_0)
  clear h; intro hb h; conv => whnf
  replace h := oreq.elim h; obtain ⟨hb, h⟩ := h
  first | (refine req.intro hb ?_; conv => whnf) | skip
  replace h := obind.elim h; obtain ⟨e, hy, h⟩ := h
  refine ld_T capi_Backend_len hy (by first | omega | exact Nat.zero_add _ | exact congrArg (· + _) (Nat.zero_add _)) rfl ?_
  conv => whnf
  refine br.h h ?_ ?_ ?_
  · rfl
  · clear h; intro hb h; conv => whnf
    all_goals (cases h; cases hc)
    all_goals exact Res.of [] rfl nw_0 (by decide) js_0 (wr_n wr_0)
  clear h; intro hb h; conv => whnf
  refine br.h h ?_ ?_ ?_
  · rfl
  · clear h; intro hb h; conv => whnf
    all_goals (cases h; cases hc)
    all_goals exact Res.of [] rfl nw_0 (by decide) js_0 (wr_n wr_0)
  clear h; intro hb h; conv => whnf
  refine br.h h ?_ ?_ ?_
  · rfl
  · clear h; intro hb h; conv => whnf
    all_goals (cases h; cases hc)
    all_goals exact Res.of [] rfl nw_0 (by decide) js_0 (wr_n wr_0)
  clear h; intro hb h; conv => whnf
  refine br.h h ?_ ?_ ?_
  · rfl
  · clear h; intro hb h; conv => whnf
    all_goals (cases h; cases hc)
    all_goals exact Res.of [] rfl nw_0 (by decide) js_0 (wr_n wr_0)
  clear h; intro hb h; conv => whnf
  refine br.h2 h ?_ ?_ ?_
  · rfl
  · clear h; intro hb h; conv => whnf
    replace h := obind.elim h; obtain ⟨xr1, hy, h⟩ := h
    refine sumK.q rfl rfl (r115_eq hy) rfl rfl rfl ?_
    conv => whnf
    refine br.h h ?_ ?_ ?_
    · rfl
    · clear h; intro hb h; conv => whnf
      all_goals (cases h; cases hc)
      all_goals exact Res.of [] rfl nw_0 (by decide) js_0 (wr_n wr_0)
    clear h; intro hb h; conv => whnf
    cases h; simp only [Sum.elim_inl, head57_1] at hc
    exact lrA0 hc [(0, 0), (1, 1)] rfl
  clear h; intro hb h; conv => whnf
  refine br.h h ?_ ?_ ?_
  · rfl
  · clear h; intro hb h; conv => whnf
    all_goals (cases h; cases hc)
    all_goals exact Res.of [] rfl nw_0 (by decide) js_0 (wr_n wr_0)
  clear h; intro hb h; conv => whnf
  replace h := obind.elim h; obtain ⟨xr, hy, h⟩ := h
  refine sumK.q rfl rfl (r115_eq hy) rfl rfl rfl ?_
  conv => whnf
  refine br.h h ?_ ?_ ?_
  · rfl
  · clear h; intro hb h; conv => whnf
    all_goals (cases h; cases hc)
    all_goals exact Res.of [] rfl nw_0 (by decide) js_0 (wr_n wr_0)
  clear h; intro hb h; conv => whnf
  cases h; simp only [Sum.elim_inl, head57_1] at hc
  exact lrA0 hc [(0, 0), (1, 1)] rfl
theorem leads57 (R04_Right : api_Addr → Option Bool) (hS : SumsOK Try.prog (aget (sums57 R04_Right))) (ra0 : saved_Record) (res : Bool) (h : R55_RightF R04_Right ra0 = some res) :
    Leads Try.prog 57 1 ⟨⟨57, 71, [(0, .agg ⟨[.int .u64 ra0.Key.A, .int .u64 ra0.Key.B, .int .i64 ra0.Last, .slice (some ⟨0, 0, none⟩) ra0.L.length 6]⟩)], [.code k57_32], [], false, none⟩, [], [(0, .row false (vT capi_Backend ra0.L))], 1⟩ (fun v H _ => Res 1 (rx57 res) v H) := by
  unfold R55_RightF at h
  refine ev_ok tab_ok hS true 3000 ?_
  conv => whnf
  refine br.h h ?_ ?_ ?_
  · rfl
  · clear h; intro hb h; conv => whnf
    all_goals (cases h)
    all_goals exact Res.of [] rfl nw_0 (by decide) js_0 (wr_n wr_0)
  clear h; intro hb h; conv => whnf
  refine br.h h ?_ ?_ ?_
  · rfl
  · clear h; intro hb h; conv => whnf
    all_goals (cases h)
    all_goals exact Res.of [] rfl nw_0 (by decide) js_0 (wr_n wr_0)
  clear h; intro hb h; conv => whnf
  refine br.h h ?_ ?_ ?_
  · rfl
  · clear h; intro hb h; conv => whnf
    all_goals (cases h)
    all_goals exact Res.of [] rfl nw_0 (by decide) js_0 (wr_n wr_0)
  clear h; intro hb h; conv => whnf
  have hl := loop57_1 R04_Right hS _ res _ _ _ h rfl; simp only [head57_1] at hl
  exact lrA0 hl [(0, 0), (1, 1)] rfl
theorem ok57 (R04_Right : api_Addr → Option Bool) (hS : SumsOK Try.prog (aget (sums57 R04_Right))) : SumOK Try.prog 57 (s57 (R55_RightF R04_Right)) := by
  refine SumOK.of_leads tab_ok (fun ar os r ha hr => ?_) ⟨Try.f57, rfl, by decide, rfl⟩
  replace hr : r57 (R55_RightF R04_Right) ar (conts os) = some r := hr
  unfold r57 at hr
  generalize hc : conts os = C at hr
  have hq := dTr.elim hr; clear hr; obtain ⟨v0, l1, c0, C, y0, rfl, rfl, e0, hr⟩ := hq; obtain ⟨rfl, rfl⟩ := udsaved_Record_eq e0; simp only [List.nil_append, List.cons_append] at hc
  replace hr := dFin hr; obtain ⟨rfl, rfl, x, h, rfl⟩ := hr
  obtain ⟨os, rfl, ha, hc⟩ := kinds_some ha hc
  obtain rfl := kinds_nil hc
  exact ⟨_, rfl, leads57 R04_Right hS _ x h⟩
def R55_Right : saved_Record → Option Bool := R55_RightF R04_Right
theorem lift57 : SumOK Try.prog 57 (s57 R55_Right) := ok57 R04_Right (SumsOK.of_tab ⟨lift115, trivial⟩)
def saved_sealF (octet_Put : Int → Int → Option (List UInt8)) (sip_Hash : api_Key → (List UInt8) → Option Int) (s : List UInt8) : Option (List UInt8) :=
  (sip_Hash (api_Key.mk 1 2) s).bind fun xh =>
  (octet_Put xh 8).bind fun p =>
  some (p)
def rx98 (x : List UInt8) : SRes := ⟨.string ⟨⟨x⟩⟩, [], []⟩
def r98 (g : (List UInt8) → Option (List UInt8)) : Dec := dV asS fun (y0 : List UInt8) => dEnd (ofG (g y0) rx98)
theorem r98_c {g : (List UInt8) → Option (List UInt8)} {y0 : List UInt8} {x : List UInt8} (hx : g y0 = some x) : r98 g [.string ⟨⟨y0⟩⟩] [] = some (rx98 x) := (dV_eq (asS_c)).trans (ofG_eq hx)
def s98 (g : (List UInt8) → Option (List UInt8)) : Summ := ⟨[.v], r98 g⟩
theorem r98_eq {g : (List UInt8) → Option (List UInt8)} {y0 : List UInt8} {x : List UInt8} (hx : g y0 = some x) : (s98 g).run [.string ⟨⟨y0⟩⟩] [] = some (rx98 x) := r98_c hx
abbrev sums98 (octet_Put : Int → Int → Option (List UInt8)) (sip_Hash : api_Key → (List UInt8) → Option Int) : List (Nat × Summ) := [(109, s109 octet_Put), (94, s94 sip_Hash)]
theorem leads98 (octet_Put : Int → Int → Option (List UInt8)) (sip_Hash : api_Key → (List UInt8) → Option Int) (hS : SumsOK Try.prog (aget (sums98 octet_Put sip_Hash))) (s : List UInt8) (res : List UInt8) (h : saved_sealF octet_Put sip_Hash s = some res) :
    Leads Try.prog 98 0 ⟨⟨98, 7, [(0, .string ⟨⟨s⟩⟩)], [.code k98_3], [], false, none⟩, [], [], 0⟩ (fun v H _ => Res 0 (rx98 res) v H) := by
  unfold saved_sealF at h
  refine ev_ok tab_ok hS true 3000 ?_
  conv => whnf
  replace h := obind.elim h; obtain ⟨xh, hy, h⟩ := h
  refine sumK.q rfl rfl (r94_eq hy) rfl rfl rfl ?_
  conv => whnf
  replace h := obind.elim h; obtain ⟨p, hy, h⟩ := h
  refine sumK.q rfl rfl (r109_eq hy) rfl rfl rfl ?_
  conv => whnf
  all_goals (cases h; exact Res.z rfl rfl rfl)
theorem ok98 (octet_Put : Int → Int → Option (List UInt8)) (sip_Hash : api_Key → (List UInt8) → Option Int) (hS : SumsOK Try.prog (aget (sums98 octet_Put sip_Hash))) : SumOK Try.prog 98 (s98 (saved_sealF octet_Put sip_Hash)) := by
  refine SumOK.of_leads tab_ok (fun ar os r ha hr => ?_) ⟨Try.f98, rfl, by decide, rfl⟩
  replace hr : r98 (saved_sealF octet_Put sip_Hash) ar (conts os) = some r := hr
  unfold r98 at hr
  generalize hc : conts os = C at hr
  replace hr := dV.elim hr; obtain ⟨v0, l1, y0, rfl, e0, hr⟩ := hr; obtain rfl := asS_eq _ _ e0
  replace hr := dFin hr; obtain ⟨rfl, rfl, x, h, rfl⟩ := hr
  obtain rfl := kinds_nil hc
  exact ⟨_, rfl, leads98 octet_Put sip_Hash hS _ x h⟩
def saved_seal : (List UInt8) → Option (List UInt8) := saved_sealF octet_Put sip_Hash
theorem lift98 : SumOK Try.prog 98 (s98 saved_seal) := ok98 octet_Put sip_Hash (SumsOK.of_tab ⟨lift109, lift94, trivial⟩)
def saved_Put_s1 (addr_Put : api_Addr → Option (List UInt8)) (octet_Put : Int → Int → Option (List UInt8)) (saved_seal : (List UInt8) → Option (List UInt8)) (ra0 : saved_Record) (t37 : Int) (s : List UInt8) : Option (Sum (Int × (List UInt8)) ((List UInt8) × Int)) :=
  cond (decide (t37 < (ra0.L.length : Int)))
    (
    oreq (decide ((0 : Int) ≤ t37 ∧ t37 < (ra0.L.length : Int))) <|
    (ra0.L[t37.toNat]?).bind fun (e : api_Backend) =>
    (addr_Put e.Addr).bind fun p4 =>
    let t1 := iorI .u64 (wI .u64 ((wI .u64 e.ID) * 2 ^ 16)) (wI .u64 e.Weight)
    (octet_Put t1 4).bind fun p5 =>
    oreq (decide (s.length + p5.length < 2 ^ 63)) <|
    let t2 := iorI .u64 (wI .u64 ((wI .u64 e.State) * 2 ^ 8)) (wI .u64 (p4.length : Int))
    (octet_Put t2 2).bind fun p6 =>
    oreq (decide ((s ++ p5).length + p6.length < 2 ^ 63)) <|
    oreq (decide (((s ++ p5) ++ p6).length + p4.length < 2 ^ 63)) <|
    some (.inl (wI .i64 (t37 + 1), ((s ++ p5) ++ p6) ++ p4)))
    (
    (saved_seal s).bind fun s1 =>
    oreq (decide (s.length + s1.length < 2 ^ 63)) <|
    some (.inr ((s ++ s1, 0))))
def saved_PutF (addr_Put : api_Addr → Option (List UInt8)) (octet_Put : Int → Int → Option (List UInt8)) (saved_Right : saved_Record → Option Bool) (saved_seal : (List UInt8) → Option (List UInt8)) (ra0 : saved_Record) : Option ((List UInt8) × Int) :=
  (saved_Right ra0).bind fun xr =>
  cond (!xr)
    (
    some (([], 1)))
    (
    (octet_Put ra0.Key.A 8).bind fun p =>
    oreq (decide (4 + p.length < 2 ^ 63)) <|
    (octet_Put ra0.Key.B 8).bind fun p1 =>
    oreq (decide (([67, 76, 75, 49] ++ p).length + p1.length < 2 ^ 63)) <|
    (octet_Put (wI .u64 ra0.Last) 2).bind fun p2 =>
    oreq (decide ((([67, 76, 75, 49] ++ p) ++ p1).length + p2.length < 2 ^ 63)) <|
    (octet_Put (wI .u64 (ra0.L.length : Int)) 1).bind fun p3 =>
    oreq (decide (((([67, 76, 75, 49] ++ p) ++ p1) ++ p2).length + p3.length < 2 ^ 63)) <|
    let t := ((([67, 76, 75, 49] ++ p) ++ p1) ++ p2) ++ p3
    iter (fun st => saved_Put_s1 addr_Put octet_Put saved_seal ra0 st.1 st.2) FUEL (0, t))
def rx53 (x : (List UInt8) × Int) : SRes := ⟨.tuple ⟨[.string ⟨⟨x.1⟩⟩, .int .i64 x.2]⟩, [], [none]⟩
def r53 (g : saved_Record → Option ((List UInt8) × Int)) : Dec := dTr 1 (udsaved_Record 0) fun (y0 : saved_Record) => dEnd (ofG (g y0) rx53)
theorem r53_c {g : saved_Record → Option ((List UInt8) × Int)} {y0 : saved_Record} {x : (List UInt8) × Int} (hx : g y0 = some x) : r53 g [.agg ⟨[.int .u64 y0.Key.A, .int .u64 y0.Key.B, .int .i64 y0.Last, .slice (some ⟨0, 0, none⟩) y0.L.length 6]⟩] [some (vT capi_Backend y0.L)] = some (rx53 x) := (dTr_eq rfl rfl (udsaved_Record_c 0 _)).trans (ofG_eq hx)
def s53 (g : saved_Record → Option ((List UInt8) × Int)) : Summ := ⟨[.tr [⟨none, 3, 0, 0, some 6⟩]], r53 g⟩
theorem r53_eq {g : saved_Record → Option ((List UInt8) × Int)} {y0 : saved_Record} {x : (List UInt8) × Int} (hx : g y0 = some x) : (s53 g).run [.agg ⟨[.int .u64 y0.Key.A, .int .u64 y0.Key.B, .int .i64 y0.Last, .slice (some ⟨0, 0, none⟩) y0.L.length 6]⟩] [some (vT capi_Backend y0.L)] = some (rx53 x) := r53_c hx
abbrev sums53 (addr_Put : api_Addr → Option (List UInt8)) (octet_Put : Int → Int → Option (List UInt8)) (saved_Right : saved_Record → Option Bool) (saved_seal : (List UInt8) → Option (List UInt8)) : List (Nat × Summ) := [(110, s110 addr_Put), (109, s109 octet_Put), (56, s56 saved_Right), (98, s98 saved_seal)]
def head53_1 (ra0 : saved_Record) (t37 : Int) (s : List UInt8) : VM :=
  ⟨⟨53, 72, [(4, .pointer (some ⟨2, 0, none⟩)), (5, .func (.func 108) ⟨[]⟩ ⟨[.pointer (some ⟨2, 0, none⟩)]⟩), (35, .slice (some ⟨0, 0, none⟩) ra0.L.length 6), (36, .int .i64 (ra0.L.length : Int)), (37, .int .i64 t37)], [.code k53_28, .inLoop k53_28, .inBlock 0, .code k53_33], [], false, none⟩, [], [(0, .row false (vT capi_Backend ra0.L)), (2, .cells [.string ⟨⟨s⟩⟩])], 19⟩
theorem loop53_1 (addr_Put : api_Addr → Option (List UInt8)) (octet_Put : Int → Int → Option (List UInt8)) (saved_Right : saved_Record → Option Bool) (saved_seal : (List UInt8) → Option (List UInt8)) (hS : SumsOK Try.prog (aget (sums53 addr_Put octet_Put saved_Right saved_seal))) (ra0 : saved_Record) (res : (List UInt8) × Int) : ∀ fuel (st : Int × (List UInt8)) (o : (List UInt8) × Int), iter (fun st => saved_Put_s1 addr_Put octet_Put saved_seal ra0 st.1 st.2) fuel st = some o → (o = res) →
    Leads Try.prog 53 1 (head53_1 ra0 st.1 st.2) (fun v H _ => Res 1 (rx53 res) v H) := by
  intro fuel st o h hc
  refine iter_leads (head := fun st => head53_1 ra0 st.1 st.2) (C := fun o => (o = res)) ?_ fuel st o h hc
  clear h hc o st fuel
  intro st o h hc
  obtain ⟨t37, s⟩ := st
  replace h : saved_Put_s1 addr_Put octet_Put saved_seal ra0 t37 s = some o := h
  show Leads Try.prog 53 1 (head53_1 ra0 t37 s) (fun v H _ => Res 1 (rx53 res) v H)
  unfold saved_Put_s1 at h
  refine ev_ok tab_ok hS true 3000 ?_
  conv => whnf
  refine br.h2 h ?_ ?_ ?_
  · rfl
  · clear h; intro hb h; conv => whnf
    replace h := obind.elim h; obtain ⟨s1, hy, h⟩ := h
    refine sumK.q rfl rfl (r98_eq hy) rfl rfl rfl ?_
    conv => whnf
    replace h := oreq.elim h; obtain ⟨hb, h⟩ := h
    first | (refine req.intro hb ?_; conv => whnf) | skip
    all_goals (cases h; cases hc)
    all_goals exact Res.of [] rfl nw_0 (by decide) js_0 (wr_n wr_0)
  clear h; intro hb h; conv => whnf
  replace h := oreq.elim h; obtain ⟨hb, h⟩ := h
  first | (refine req.intro hb ?_; conv => whnf) | skip
  replace h := obind.elim h; obtain ⟨e, hy, h⟩ := h
  refine ld_T capi_Backend_len hy (by first | omega | exact Nat.zero_add _ | exact congrArg (· + _) (Nat.zero_add _)) rfl ?_
  conv => whnf
  replace h := obind.elim h; obtain ⟨p4, hy, h⟩ := h
  refine sumK.q rfl rfl (r110_eq hy) rfl rfl rfl ?_
  conv => whnf
  let t1 : Int := iorI .u64 (wI .u64 ((wI .u64 e.ID) * 2 ^ 16)) (wI .u64 e.Weight)
  replace h := obind.elim h; obtain ⟨p5, hy, h⟩ := h
  refine sumK.q rfl rfl (r109_eq hy) rfl rfl rfl ?_
  conv => whnf
  replace h := oreq.elim h; obtain ⟨hb, h⟩ := h
  first | (refine req.intro hb ?_; conv => whnf) | skip
  let t2 : Int := iorI .u64 (wI .u64 ((wI .u64 e.State) * 2 ^ 8)) (wI .u64 (p4.length : Int))
  replace h := obind.elim h; obtain ⟨p6, hy, h⟩ := h
  refine sumK.q rfl rfl (r109_eq hy) rfl rfl rfl ?_
  conv => whnf
  replace h := oreq.elim h; obtain ⟨hb, h⟩ := h
  first | (refine req.intro hb ?_; conv => whnf) | skip
  replace h := oreq.elim h; obtain ⟨hb, h⟩ := h
  first | (refine req.intro hb ?_; conv => whnf) | skip
  cases h; simp only [Sum.elim_inl, head53_1] at hc
  exact lrA0 hc [(0, 0), (2, 2)] rfl
theorem leads53 (addr_Put : api_Addr → Option (List UInt8)) (octet_Put : Int → Int → Option (List UInt8)) (saved_Right : saved_Record → Option Bool) (saved_seal : (List UInt8) → Option (List UInt8)) (hS : SumsOK Try.prog (aget (sums53 addr_Put octet_Put saved_Right saved_seal))) (ra0 : saved_Record) (res : (List UInt8) × Int) (h : saved_PutF addr_Put octet_Put saved_Right saved_seal ra0 = some res) :
    Leads Try.prog 53 1 ⟨⟨53, 72, [(0, .agg ⟨[.int .u64 ra0.Key.A, .int .u64 ra0.Key.B, .int .i64 ra0.Last, .slice (some ⟨0, 0, none⟩) ra0.L.length 6]⟩)], [.code k53_42], [], false, none⟩, [], [(0, .row false (vT capi_Backend ra0.L))], 1⟩ (fun v H _ => Res 1 (rx53 res) v H) := by
  unfold saved_PutF at h
  refine ev_ok tab_ok hS true 3000 ?_
  conv => whnf
  replace h := obind.elim h; obtain ⟨xr, hy, h⟩ := h
  refine sumK.introF [] (sumRun_of (aqs := [.agg ⟨[.int .u64 ra0.Key.A, .int .u64 ra0.Key.B, .int .i64 ra0.Last, .slice (some ⟨0, 0, none⟩) ra0.L.length 6]⟩]) (ws := [.blk 0 false]) (n := 0) (m := 0) (t' := 2) (ra_cons (ra_tr rfl rfl (vp_at rfl rfl (rn_T capi_Backend_flat) rfl vp_nil) rfl) rfl ra_nil) rfl (by rfl) (r56_eq hy) rfl rfl rfl rfl (wb_skip rfl wb_nil) an_nil rfl) ?_
  conv => whnf
  refine br.h h ?_ ?_ ?_
  · rfl
  · clear h; intro hb h; conv => whnf
    all_goals (cases h)
    all_goals exact Res.of [] rfl nw_0 (by decide) js_0 (wr_n wr_0)
  clear h; intro hb h; conv => whnf
  replace h := obind.elim h; obtain ⟨p, hy, h⟩ := h
  refine sumK.q rfl rfl (r109_eq hy) rfl rfl rfl ?_
  conv => whnf
  replace h := oreq.elim h; obtain ⟨hb, h⟩ := h
  first | (refine req.intro hb ?_; conv => whnf) | skip
  replace h := obind.elim h; obtain ⟨p1, hy, h⟩ := h
  refine sumK.q rfl rfl (r109_eq hy) rfl rfl rfl ?_
  conv => whnf
  replace h := oreq.elim h; obtain ⟨hb, h⟩ := h
  first | (refine req.intro hb ?_; conv => whnf) | skip
  replace h := obind.elim h; obtain ⟨p2, hy, h⟩ := h
  refine sumK.q rfl rfl (r109_eq hy) rfl rfl rfl ?_
  conv => whnf
  replace h := oreq.elim h; obtain ⟨hb, h⟩ := h
  first | (refine req.intro hb ?_; conv => whnf) | skip
  replace h := obind.elim h; obtain ⟨p3, hy, h⟩ := h
  refine sumK.q rfl rfl (r109_eq hy) rfl rfl rfl ?_
  conv => whnf
  replace h := oreq.elim h; obtain ⟨hb, h⟩ := h
  first | (refine req.intro hb ?_; conv => whnf) | skip
  let t : List UInt8 := ((([67, 76, 75, 49] ++ p) ++ p1) ++ p2) ++ p3
  have hl := loop53_1 addr_Put octet_Put saved_Right saved_seal hS _ res _ _ _ h rfl; simp only [head53_1] at hl
  exact lrA0 hl [(0, 0), (2, 2)] rfl
theorem ok53 (addr_Put : api_Addr → Option (List UInt8)) (octet_Put : Int → Int → Option (List UInt8)) (saved_Right : saved_Record → Option Bool) (saved_seal : (List UInt8) → Option (List UInt8)) (hS : SumsOK Try.prog (aget (sums53 addr_Put octet_Put saved_Right saved_seal))) : SumOK Try.prog 53 (s53 (saved_PutF addr_Put octet_Put saved_Right saved_seal)) := by
  refine SumOK.of_leads tab_ok (fun ar os r ha hr => ?_) ⟨Try.f53, rfl, by decide, rfl⟩
  replace hr : r53 (saved_PutF addr_Put octet_Put saved_Right saved_seal) ar (conts os) = some r := hr
  unfold r53 at hr
  generalize hc : conts os = C at hr
  have hq := dTr.elim hr; clear hr; obtain ⟨v0, l1, c0, C, y0, rfl, rfl, e0, hr⟩ := hq; obtain ⟨rfl, rfl⟩ := udsaved_Record_eq e0; simp only [List.nil_append, List.cons_append] at hc
  replace hr := dFin hr; obtain ⟨rfl, rfl, x, h, rfl⟩ := hr
  obtain ⟨os, rfl, ha, hc⟩ := kinds_some ha hc
  obtain rfl := kinds_nil hc
  exact ⟨_, rfl, leads53 addr_Put octet_Put saved_Right saved_seal hS _ x h⟩
def saved_Put : saved_Record → Option ((List UInt8) × Int) := saved_PutF addr_Put octet_Put saved_Right saved_seal
theorem lift53 : SumOK Try.prog 53 (s53 saved_Put) := ok53 addr_Put octet_Put saved_Right saved_seal (SumsOK.of_tab ⟨lift110, lift109, lift56, lift98, trivial⟩)
def R55_SealF (R02_Put : Int → Int → Option (List UInt8)) (R12_Hash : api_Key → (List UInt8) → Option Int) (s : List UInt8) : Option (List UInt8) :=
  (R12_Hash (api_Key.mk 1 2) s).bind fun xh =>
  (R02_Put xh 8).bind fun p =>
  some (p)
def rx49 (x : List UInt8) : SRes := ⟨.string ⟨⟨x⟩⟩, [], []⟩
def r49 (g : (List UInt8) → Option (List UInt8)) : Dec := dV asS fun (y0 : List UInt8) => dEnd (ofG (g y0) rx49)
theorem r49_c {g : (List UInt8) → Option (List UInt8)} {y0 : List UInt8} {x : List UInt8} (hx : g y0 = some x) : r49 g [.string ⟨⟨y0⟩⟩] [] = some (rx49 x) := (dV_eq (asS_c)).trans (ofG_eq hx)
def s49 (g : (List UInt8) → Option (List UInt8)) : Summ := ⟨[.v], r49 g⟩
theorem r49_eq {g : (List UInt8) → Option (List UInt8)} {y0 : List UInt8} {x : List UInt8} (hx : g y0 = some x) : (s49 g).run [.string ⟨⟨y0⟩⟩] [] = some (rx49 x) := r49_c hx
abbrev sums49 (R02_Put : Int → Int → Option (List UInt8)) (R12_Hash : api_Key → (List UInt8) → Option Int) : List (Nat × Summ) := [(104, s104 R02_Put), (95, s95 R12_Hash)]
theorem leads49 (R02_Put : Int → Int → Option (List UInt8)) (R12_Hash : api_Key → (List UInt8) → Option Int) (hS : SumsOK Try.prog (aget (sums49 R02_Put R12_Hash))) (s : List UInt8) (res : List UInt8) (h : R55_SealF R02_Put R12_Hash s = some res) :
    Leads Try.prog 49 0 ⟨⟨49, 7, [(0, .string ⟨⟨s⟩⟩)], [.code k49_3], [], false, none⟩, [], [], 0⟩ (fun v H _ => Res 0 (rx49 res) v H) := by
  unfold R55_SealF at h
  refine ev_ok tab_ok hS true 3000 ?_
  conv => whnf
  replace h := obind.elim h; obtain ⟨xh, hy, h⟩ := h
  refine sumK.q rfl rfl (r95_eq hy) rfl rfl rfl ?_
  conv => whnf
  replace h := obind.elim h; obtain ⟨p, hy, h⟩ := h
  refine sumK.q rfl rfl (r104_eq hy) rfl rfl rfl ?_
  conv => whnf
  all_goals (cases h; exact Res.z rfl rfl rfl)
theorem ok49 (R02_Put : Int → Int → Option (List UInt8)) (R12_Hash : api_Key → (List UInt8) → Option Int) (hS : SumsOK Try.prog (aget (sums49 R02_Put R12_Hash))) : SumOK Try.prog 49 (s49 (R55_SealF R02_Put R12_Hash)) := by
  refine SumOK.of_leads tab_ok (fun ar os r ha hr => ?_) ⟨Try.f49, rfl, by decide, rfl⟩
  replace hr : r49 (R55_SealF R02_Put R12_Hash) ar (conts os) = some r := hr
  unfold r49 at hr
  generalize hc : conts os = C at hr
  replace hr := dV.elim hr; obtain ⟨v0, l1, y0, rfl, e0, hr⟩ := hr; obtain rfl := asS_eq _ _ e0
  replace hr := dFin hr; obtain ⟨rfl, rfl, x, h, rfl⟩ := hr
  obtain rfl := kinds_nil hc
  exact ⟨_, rfl, leads49 R02_Put R12_Hash hS _ x h⟩
def R55_Seal : (List UInt8) → Option (List UInt8) := R55_SealF R02_Put R12_Hash
theorem lift49 : SumOK Try.prog 49 (s49 R55_Seal) := ok49 R02_Put R12_Hash (SumsOK.of_tab ⟨lift104, lift95, trivial⟩)
def R55_numF (R02_Put : Int → Int → Option (List UInt8)) (n : Int) (k : Int) : Option (List UInt8) :=
  (R02_Put (wI .u64 n) k).bind fun p =>
  some (p)
def rx111 (x : List UInt8) : SRes := ⟨.string ⟨⟨x⟩⟩, [], []⟩
def r111 (g : Int → Int → Option (List UInt8)) : Dec := dV (asI .i64) fun (y0 : Int) => dV (asI .i64) fun (y1 : Int) => dEnd (ofG (g y0 y1) rx111)
theorem r111_c {g : Int → Int → Option (List UInt8)} {y0 : Int} {y1 : Int} {x : List UInt8} (hx : g y0 y1 = some x) : r111 g [.int .i64 y0, .int .i64 y1] [] = some (rx111 x) := (dV_eq (asI_c _)).trans ((dV_eq (asI_c _)).trans (ofG_eq hx))
def s111 (g : Int → Int → Option (List UInt8)) : Summ := ⟨[.v, .v], r111 g⟩
theorem r111_eq {g : Int → Int → Option (List UInt8)} {y0 : Int} {y1 : Int} {x : List UInt8} (hx : g y0 y1 = some x) : (s111 g).run [.int .i64 y0, .int .i64 y1] [] = some (rx111 x) := r111_c hx
abbrev sums111 (R02_Put : Int → Int → Option (List UInt8)) : List (Nat × Summ) := [(104, s104 R02_Put)]
theorem leads111 (R02_Put : Int → Int → Option (List UInt8)) (hS : SumsOK Try.prog (aget (sums111 R02_Put))) (n : Int) (k : Int) (res : List UInt8) (h : R55_numF R02_Put n k = some res) :
    Leads Try.prog 111 0 ⟨⟨111, 9, [(0, .int .i64 n), (1, .int .i64 k)], [.code k111_3], [], false, none⟩, [], [], 0⟩ (fun v H _ => Res 0 (rx111 res) v H) := by
  unfold R55_numF at h
  refine ev_ok tab_ok hS true 3000 ?_
  conv => whnf
  replace h := obind.elim h; obtain ⟨p, hy, h⟩ := h
  refine sumK.q rfl rfl (r104_eq hy) rfl rfl rfl ?_
  conv => whnf
  all_goals (cases h; exact Res.z rfl rfl rfl)
theorem ok111 (R02_Put : Int → Int → Option (List UInt8)) (hS : SumsOK Try.prog (aget (sums111 R02_Put))) : SumOK Try.prog 111 (s111 (R55_numF R02_Put)) := by
  refine SumOK.of_leads tab_ok (fun ar os r ha hr => ?_) ⟨Try.f111, rfl, by decide, rfl⟩
  replace hr : r111 (R55_numF R02_Put) ar (conts os) = some r := hr
  unfold r111 at hr
  generalize hc : conts os = C at hr
  replace hr := dV.elim hr; obtain ⟨v0, l1, y0, rfl, e0, hr⟩ := hr; obtain rfl := asI_eq _ _ _ e0
  replace hr := dV.elim hr; obtain ⟨v1, l2, y1, rfl, e1, hr⟩ := hr; obtain rfl := asI_eq _ _ _ e1
  replace hr := dFin hr; obtain ⟨rfl, rfl, x, h, rfl⟩ := hr
  obtain rfl := kinds_nil hc
  exact ⟨_, rfl, leads111 R02_Put hS _ _ x h⟩
def R55_num : Int → Int → Option (List UInt8) := R55_numF R02_Put
theorem lift111 : SumOK Try.prog 111 (s111 R55_num) := ok111 R02_Put (SumsOK.of_tab ⟨lift104, trivial⟩)
def R55_Put_s1 (R04_Put : api_Addr → Option (List UInt8)) (R55_Seal : (List UInt8) → Option (List UInt8)) (R55_num : Int → Int → Option (List UInt8)) (ra0 : saved_Record) (s : List UInt8) (i : Int) : Option (Sum ((List UInt8) × Int) ((List UInt8) × Int)) :=
  cond (decide (i < (ra0.L.length : Int)))
    (
    oreq (decide ((0 : Int) ≤ i ∧ i < (ra0.L.length : Int))) <|
    (ra0.L[i.toNat]?).bind fun (e : api_Backend) =>
    (R04_Put e.Addr).bind fun p2 =>
    oreq (decide ((0 : Int) ≤ i ∧ i < (ra0.L.length : Int))) <|
    (R55_num e.ID 2).bind fun n2 =>
    oreq (decide (s.length + n2.length < 2 ^ 63)) <|
    oreq (decide ((0 : Int) ≤ i ∧ i < (ra0.L.length : Int))) <|
    (R55_num e.Weight 2).bind fun n3 =>
    oreq (decide ((s ++ n2).length + n3.length < 2 ^ 63)) <|
    oreq (decide ((0 : Int) ≤ i ∧ i < (ra0.L.length : Int))) <|
    (R55_num e.State 1).bind fun n4 =>
    oreq (decide (((s ++ n2) ++ n3).length + n4.length < 2 ^ 63)) <|
    (R55_num (p2.length : Int) 1).bind fun n5 =>
    oreq (decide ((((s ++ n2) ++ n3) ++ n4).length + n5.length < 2 ^ 63)) <|
    oreq (decide (((((s ++ n2) ++ n3) ++ n4) ++ n5).length + p2.length < 2 ^ 63)) <|
    some (.inl (((((s ++ n2) ++ n3) ++ n4) ++ n5) ++ p2, wI .i64 (i + 1))))
    (
    (R55_Seal s).bind fun s1 =>
    oreq (decide (s.length + s1.length < 2 ^ 63)) <|
    some (.inr ((s ++ s1, 0))))
def R55_PutF (R02_Put : Int → Int → Option (List UInt8)) (R04_Put : api_Addr → Option (List UInt8)) (R55_Right : saved_Record → Option Bool) (R55_Seal : (List UInt8) → Option (List UInt8)) (R55_num : Int → Int → Option (List UInt8)) (ra0 : saved_Record) : Option ((List UInt8) × Int) :=
  (R55_Right ra0).bind fun xr =>
  cond (!xr)
    (
    some (([], 1)))
    (
    (R02_Put ra0.Key.A 8).bind fun p =>
    oreq (decide (4 + p.length < 2 ^ 63)) <|
    (R02_Put ra0.Key.B 8).bind fun p1 =>
    oreq (decide (([67, 76, 75, 49] ++ p).length + p1.length < 2 ^ 63)) <|
    (R55_num ra0.Last 2).bind fun n =>
    oreq (decide ((([67, 76, 75, 49] ++ p) ++ p1).length + n.length < 2 ^ 63)) <|
    (R55_num (ra0.L.length : Int) 1).bind fun n1 =>
    oreq (decide (((([67, 76, 75, 49] ++ p) ++ p1) ++ n).length + n1.length < 2 ^ 63)) <|
    let t := ((([67, 76, 75, 49] ++ p) ++ p1) ++ n) ++ n1
    iter (fun st => R55_Put_s1 R04_Put R55_Seal R55_num ra0 st.1 st.2) FUEL (t, 0))
def rx55 (x : (List UInt8) × Int) : SRes := ⟨.tuple ⟨[.string ⟨⟨x.1⟩⟩, .int .i64 x.2]⟩, [], [none]⟩
def r55 (g : saved_Record → Option ((List UInt8) × Int)) : Dec := dTr 1 (udsaved_Record 0) fun (y0 : saved_Record) => dEnd (ofG (g y0) rx55)
theorem r55_c {g : saved_Record → Option ((List UInt8) × Int)} {y0 : saved_Record} {x : (List UInt8) × Int} (hx : g y0 = some x) : r55 g [.agg ⟨[.int .u64 y0.Key.A, .int .u64 y0.Key.B, .int .i64 y0.Last, .slice (some ⟨0, 0, none⟩) y0.L.length 6]⟩] [some (vT capi_Backend y0.L)] = some (rx55 x) := (dTr_eq rfl rfl (udsaved_Record_c 0 _)).trans (ofG_eq hx)
def s55 (g : saved_Record → Option ((List UInt8) × Int)) : Summ := ⟨[.tr [⟨none, 3, 0, 0, some 6⟩]], r55 g⟩
theorem r55_eq {g : saved_Record → Option ((List UInt8) × Int)} {y0 : saved_Record} {x : (List UInt8) × Int} (hx : g y0 = some x) : (s55 g).run [.agg ⟨[.int .u64 y0.Key.A, .int .u64 y0.Key.B, .int .i64 y0.Last, .slice (some ⟨0, 0, none⟩) y0.L.length 6]⟩] [some (vT capi_Backend y0.L)] = some (rx55 x) := r55_c hx
abbrev sums55 (R02_Put : Int → Int → Option (List UInt8)) (R04_Put : api_Addr → Option (List UInt8)) (R55_Right : saved_Record → Option Bool) (R55_Seal : (List UInt8) → Option (List UInt8)) (R55_num : Int → Int → Option (List UInt8)) : List (Nat × Summ) := [(104, s104 R02_Put), (112, s112 R04_Put), (57, s57 R55_Right), (49, s49 R55_Seal), (111, s111 R55_num)]
def head55_1 (ra0 : saved_Record) (s : List UInt8) (i : Int) : VM :=
  ⟨⟨55, 78, [(1, .pointer (some ⟨1, 0, none⟩)), (4, .string ⟨⟨s⟩⟩), (5, .int .i64 i)], [.code k55_17, .inLoop k55_17, .inBlock 0, .code k55_22], [], false, none⟩, [], [(0, .row false (vT capi_Backend ra0.L)), (1, .cells [.int .u64 ra0.Key.A, .int .u64 ra0.Key.B, .int .i64 ra0.Last, .slice (some ⟨0, 0, none⟩) ra0.L.length 6])], 20⟩
theorem loop55_1 (R02_Put : Int → Int → Option (List UInt8)) (R04_Put : api_Addr → Option (List UInt8)) (R55_Right : saved_Record → Option Bool) (R55_Seal : (List UInt8) → Option (List UInt8)) (R55_num : Int → Int → Option (List UInt8)) (hS : SumsOK Try.prog (aget (sums55 R02_Put R04_Put R55_Right R55_Seal R55_num))) (ra0 : saved_Record) (res : (List UInt8) × Int) : ∀ fuel (st : (List UInt8) × Int) (o : (List UInt8) × Int), iter (fun st => R55_Put_s1 R04_Put R55_Seal R55_num ra0 st.1 st.2) fuel st = some o → (o = res) →
    Leads Try.prog 55 1 (head55_1 ra0 st.1 st.2) (fun v H _ => Res 1 (rx55 res) v H) := by
  intro fuel st o h hc
  refine iter_leads (head := fun st => head55_1 ra0 st.1 st.2) (C := fun o => (o = res)) ?_ fuel st o h hc
  clear h hc o st fuel
  intro st o h hc
  obtain ⟨s, i⟩ := st
  replace h : R55_Put_s1 R04_Put R55_Seal R55_num ra0 s i = some o := h
  show Leads Try.prog 55 1 (head55_1 ra0 s i) (fun v H _ => Res 1 (rx55 res) v H)
  unfold R55_Put_s1 at h
  refine ev_ok tab_ok hS true 3000 ?_
  conv => whnf
  refine br.h2 h ?_ ?_ ?_
  · rfl
  · clear h; intro hb h; conv => whnf
    replace h := obind.elim h; obtain ⟨s1, hy, h⟩ := h
    refine sumK.q rfl rfl (r49_eq hy) rfl rfl rfl ?_
    conv => whnf
    replace h := oreq.elim h; obtain ⟨hb, h⟩ := h
    first | (refine req.intro hb ?_; conv => whnf) | skip
    all_goals (cases h; cases hc)
    all_goals exact Res.of [] rfl nw_0 (by decide) js_0 (wr_n wr_0)
  clear h; intro hb h; conv => whnf
  replace h := oreq.elim h; obtain ⟨hb, h⟩ := h
  first | (refine req.intro hb ?_; conv => whnf) | skip
  replace h := obind.elim h; obtain ⟨e, hy, h⟩ := h
  refine ld_TP (j := 3) capi_Backend_len hy (by first | omega | exact Nat.zero_add _ | exact congrArg (· + _) (Nat.zero_add _)) (by decide) ?_
  conv => whnf
  replace h := obind.elim h; obtain ⟨p2, hy, h⟩ := h
  refine sumK.q rfl rfl (r112_eq hy) rfl rfl rfl ?_
  conv => whnf
  replace h := oreq.elim h; obtain ⟨hb, h⟩ := h
  first | (refine req.intro hb ?_; conv => whnf) | skip
  refine rd.T (i := i.toNat) (x := e) (j := 0) capi_Backend_len (by assumption) (by first | omega | exact Nat.zero_add _ | exact congrArg (· + _) (Nat.zero_add _)) (by decide) rfl ?_
  conv => whnf
  replace h := obind.elim h; obtain ⟨n2, hy, h⟩ := h
  refine sumK.q rfl rfl (r111_eq hy) rfl rfl rfl ?_
  conv => whnf
  replace h := oreq.elim h; obtain ⟨hb, h⟩ := h
  first | (refine req.intro hb ?_; conv => whnf) | skip
  replace h := oreq.elim h; obtain ⟨hb, h⟩ := h
  first | (refine req.intro hb ?_; conv => whnf) | skip
  refine rd.T (i := i.toNat) (x := e) (j := 1) capi_Backend_len (by assumption) (by first | omega | exact Nat.zero_add _ | exact congrArg (· + _) (Nat.zero_add _)) (by decide) rfl ?_
  conv => whnf
  replace h := obind.elim h; obtain ⟨n3, hy, h⟩ := h
  refine sumK.q rfl rfl (r111_eq hy) rfl rfl rfl ?_
  conv => whnf
  replace h := oreq.elim h; obtain ⟨hb, h⟩ := h
  first | (refine req.intro hb ?_; conv => whnf) | skip
  replace h := oreq.elim h; obtain ⟨hb, h⟩ := h
  first | (refine req.intro hb ?_; conv => whnf) | skip
  refine rd.T (i := i.toNat) (x := e) (j := 2) capi_Backend_len (by assumption) (by first | omega | exact Nat.zero_add _ | exact congrArg (· + _) (Nat.zero_add _)) (by decide) rfl ?_
  conv => whnf
  replace h := obind.elim h; obtain ⟨n4, hy, h⟩ := h
  refine sumK.q rfl rfl (r111_eq hy) rfl rfl rfl ?_
  conv => whnf
  replace h := oreq.elim h; obtain ⟨hb, h⟩ := h
  first | (refine req.intro hb ?_; conv => whnf) | skip
  replace h := obind.elim h; obtain ⟨n5, hy, h⟩ := h
  refine sumK.q rfl rfl (r111_eq hy) rfl rfl rfl ?_
  conv => whnf
  replace h := oreq.elim h; obtain ⟨hb, h⟩ := h
  first | (refine req.intro hb ?_; conv => whnf) | skip
  replace h := oreq.elim h; obtain ⟨hb, h⟩ := h
  first | (refine req.intro hb ?_; conv => whnf) | skip
  cases h; simp only [Sum.elim_inl, head55_1] at hc
  exact lrA0 hc [(0, 0), (1, 1)] rfl
theorem leads55 (R02_Put : Int → Int → Option (List UInt8)) (R04_Put : api_Addr → Option (List UInt8)) (R55_Right : saved_Record → Option Bool) (R55_Seal : (List UInt8) → Option (List UInt8)) (R55_num : Int → Int → Option (List UInt8)) (hS : SumsOK Try.prog (aget (sums55 R02_Put R04_Put R55_Right R55_Seal R55_num))) (ra0 : saved_Record) (res : (List UInt8) × Int) (h : R55_PutF R02_Put R04_Put R55_Right R55_Seal R55_num ra0 = some res) :
    Leads Try.prog 55 1 ⟨⟨55, 78, [(0, .agg ⟨[.int .u64 ra0.Key.A, .int .u64 ra0.Key.B, .int .i64 ra0.Last, .slice (some ⟨0, 0, none⟩) ra0.L.length 6]⟩)], [.code k55_26], [], false, none⟩, [], [(0, .row false (vT capi_Backend ra0.L))], 1⟩ (fun v H _ => Res 1 (rx55 res) v H) := by
  unfold R55_PutF at h
  refine ev_ok tab_ok hS true 3000 ?_
  conv => whnf
  replace h := obind.elim h; obtain ⟨xr, hy, h⟩ := h
  refine sumK.introF [] (sumRun_of (aqs := [.agg ⟨[.int .u64 ra0.Key.A, .int .u64 ra0.Key.B, .int .i64 ra0.Last, .slice (some ⟨0, 0, none⟩) ra0.L.length 6]⟩]) (ws := [.blk 0 false]) (n := 0) (m := 0) (t' := 2) (ra_cons (ra_tr rfl rfl (vp_at rfl rfl (rn_T capi_Backend_flat) rfl vp_nil) rfl) rfl ra_nil) rfl (by rfl) (r57_eq hy) rfl rfl rfl rfl (wb_skip rfl wb_nil) an_nil rfl) ?_
  conv => whnf
  refine br.h h ?_ ?_ ?_
  · rfl
  · clear h; intro hb h; conv => whnf
    all_goals (cases h)
    all_goals exact Res.of [] rfl nw_0 (by decide) js_0 (wr_n wr_0)
  clear h; intro hb h; conv => whnf
  replace h := obind.elim h; obtain ⟨p, hy, h⟩ := h
  refine sumK.q rfl rfl (r104_eq hy) rfl rfl rfl ?_
  conv => whnf
  replace h := oreq.elim h; obtain ⟨hb, h⟩ := h
  first | (refine req.intro hb ?_; conv => whnf) | skip
  replace h := obind.elim h; obtain ⟨p1, hy, h⟩ := h
  refine sumK.q rfl rfl (r104_eq hy) rfl rfl rfl ?_
  conv => whnf
  replace h := oreq.elim h; obtain ⟨hb, h⟩ := h
  first | (refine req.intro hb ?_; conv => whnf) | skip
  replace h := obind.elim h; obtain ⟨n, hy, h⟩ := h
  refine sumK.q rfl rfl (r111_eq hy) rfl rfl rfl ?_
  conv => whnf
  replace h := oreq.elim h; obtain ⟨hb, h⟩ := h
  first | (refine req.intro hb ?_; conv => whnf) | skip
  replace h := obind.elim h; obtain ⟨n1, hy, h⟩ := h
  refine sumK.q rfl rfl (r111_eq hy) rfl rfl rfl ?_
  conv => whnf
  replace h := oreq.elim h; obtain ⟨hb, h⟩ := h
  first | (refine req.intro hb ?_; conv => whnf) | skip
  let t : List UInt8 := ((([67, 76, 75, 49] ++ p) ++ p1) ++ n) ++ n1
  have hl := loop55_1 R02_Put R04_Put R55_Right R55_Seal R55_num hS _ res _ _ _ h rfl; simp only [head55_1] at hl
  exact lrA0 hl [(0, 0), (1, 1)] rfl
theorem ok55 (R02_Put : Int → Int → Option (List UInt8)) (R04_Put : api_Addr → Option (List UInt8)) (R55_Right : saved_Record → Option Bool) (R55_Seal : (List UInt8) → Option (List UInt8)) (R55_num : Int → Int → Option (List UInt8)) (hS : SumsOK Try.prog (aget (sums55 R02_Put R04_Put R55_Right R55_Seal R55_num))) : SumOK Try.prog 55 (s55 (R55_PutF R02_Put R04_Put R55_Right R55_Seal R55_num)) := by
  refine SumOK.of_leads tab_ok (fun ar os r ha hr => ?_) ⟨Try.f55, rfl, by decide, rfl⟩
  replace hr : r55 (R55_PutF R02_Put R04_Put R55_Right R55_Seal R55_num) ar (conts os) = some r := hr
  unfold r55 at hr
  generalize hc : conts os = C at hr
  have hq := dTr.elim hr; clear hr; obtain ⟨v0, l1, c0, C, y0, rfl, rfl, e0, hr⟩ := hq; obtain ⟨rfl, rfl⟩ := udsaved_Record_eq e0; simp only [List.nil_append, List.cons_append] at hc
  replace hr := dFin hr; obtain ⟨rfl, rfl, x, h, rfl⟩ := hr
  obtain ⟨os, rfl, ha, hc⟩ := kinds_some ha hc
  obtain rfl := kinds_nil hc
  exact ⟨_, rfl, leads55 R02_Put R04_Put R55_Right R55_Seal R55_num hS _ x h⟩
def R55_Put : saved_Record → Option ((List UInt8) × Int) := R55_PutF R02_Put R04_Put R55_Right R55_Seal R55_num
theorem lift55 : SumOK Try.prog 55 (s55 R55_Put) := ok55 R02_Put R04_Put R55_Right R55_Seal R55_num (SumsOK.of_tab ⟨lift104, lift112, lift57, lift49, lift111, trivial⟩)
def saved_Of_s1 (k : api_Key) (last : Int) (l : List api_Backend) (t15 : Int) (c : List api_Backend) : Option (Sum (Int × (List api_Backend)) saved_Record) :=
  cond (decide (t15 < (l.length : Int)))
    (
    oreq (decide ((0 : Int) ≤ t15 ∧ t15 < (l.length : Int))) <|
    (l[t15.toNat]?).bind fun (e : api_Backend) =>
    cond (e.State == 4)
      (
      some (.inl (wI .i64 (t15 + 1), c)))
      (
      cond (e.State == 3)
        (
        oreq (decide ((c.length + 1) * 48 ≤ 2 ^ 47)) <|
        let row := c ++ [e]
        some (.inl (wI .i64 (t15 + 1), row)))
        (
        oreq (decide ((c.length + 1) * 48 ≤ 2 ^ 47)) <|
        let row1 := c ++ [api_Backend.mk e.ID e.Weight 1 e.Addr]
        some (.inl (wI .i64 (t15 + 1), row1)))))
    (
    some (.inr (saved_Record.mk k last c)))
def saved_OfF (k : api_Key) (last : Int) (l : List api_Backend) : Option saved_Record :=
  iter (fun st => saved_Of_s1 k last l st.1 st.2) FUEL (0, [])
def rx58 (x : saved_Record) : SRes := ⟨.agg ⟨[.int .u64 x.Key.A, .int .u64 x.Key.B, .int .i64 x.Last, .slice (some ⟨0, 0, none⟩) x.L.length 6]⟩, [(vT capi_Backend x.L)], [none]⟩
def r58 (g : api_Key → Int → (List api_Backend) → Option saved_Record) : Dec := dV uvapi_Key fun (y0 : api_Key) => dV (asI .i64) fun (y1 : Int) => dSl 0 6 (unR 6 unapi_Backend) fun (y2 : List api_Backend) => dEnd (ofG (g y0 y1 y2) rx58)
theorem r58_c {g : api_Key → Int → (List api_Backend) → Option saved_Record} {y0 : api_Key} {y1 : Int} {y2 : List api_Backend} {x : saved_Record} (hx : g y0 y1 y2 = some x) : r58 g [.agg ⟨[.int .u64 y0.A, .int .u64 y0.B]⟩, .int .i64 y1, .slice (some ⟨0, 0, none⟩) y2.length 6] [some (vT capi_Backend y2)] = some (rx58 x) := (dV_eq (uvapi_Key_c _)).trans ((dV_eq (asI_c _)).trans ((dSl_eq (unR_vT (by first | exact capi_Key_len | exact capi_Addr_len | exact capi_Backend_len | exact cArr4_Int_len | exact csip_Hasher_len | exact coctet_Reader_len | exact cR23_Step_len | exact chealth_Rule_len | exact chealth_State_len | exact cregistry_row_len) (by decide) unapi_Backend_c _)).trans (ofG_eq hx)))
def s58 (g : api_Key → Int → (List api_Backend) → Option saved_Record) : Summ := ⟨[.v, .v, .sl 6], r58 g⟩
theorem r58_eq {g : api_Key → Int → (List api_Backend) → Option saved_Record} {y0 : api_Key} {y1 : Int} {y2 : List api_Backend} {x : saved_Record} (hx : g y0 y1 y2 = some x) : (s58 g).run [.agg ⟨[.int .u64 y0.A, .int .u64 y0.B]⟩, .int .i64 y1, .slice (some ⟨0, 0, none⟩) y2.length 6] [some (vT capi_Backend y2)] = some (rx58 x) := r58_c hx
abbrev sums58 : List (Nat × Summ) := []
def head58_1 (k : api_Key) (last : Int) (l : List api_Backend) (t15 : Int) (c : List api_Backend) : VM :=
  ⟨⟨58, 34, [(6, .pointer (some ⟨2, 0, none⟩)), (7, .pointer (some ⟨3, 0, none⟩)), (13, .slice (some ⟨0, 0, none⟩) l.length 6), (14, .int .i64 (l.length : Int)), (15, .int .i64 t15)], [.code k58_23, .inLoop k58_23, .inBlock 0, .code k58_28], [], false, none⟩, [], [(0, .row false (vT capi_Backend l)), (2, .cells [.int .u64 0, .int .u64 0, .int .i64 0, .slice none 0 0]), (3, .cells [.int .u64 k.A, .int .u64 k.B, .int .i64 last, .slice (some ⟨4, 0, none⟩) c.length 6]), (4, .row true (vT capi_Backend c))], 5⟩
theorem loop58_1 (hS : SumsOK Try.prog (aget (sums58))) (k : api_Key) (last : Int) (l : List api_Backend) (res : saved_Record) : ∀ fuel (st : Int × (List api_Backend)) (o : saved_Record), iter (fun st => saved_Of_s1 k last l st.1 st.2) fuel st = some o → (o = res) →
    Leads Try.prog 58 1 (head58_1 k last l st.1 st.2) (fun v H _ => Res 1 (rx58 res) v H) := by
  intro fuel st o h hc
  refine iter_leads (head := fun st => head58_1 k last l st.1 st.2) (C := fun o => (o = res)) ?_ fuel st o h hc
  clear h hc o st fuel
  intro st o h hc
  obtain ⟨t15, c⟩ := st
  replace h : saved_Of_s1 k last l t15 c = some o := h
  show Leads Try.prog 58 1 (head58_1 k last l t15 c) (fun v H _ => Res 1 (rx58 res) v H)
  unfold saved_Of_s1 at h
  refine ev_ok tab_ok hS true 3000 ?_
  conv => whnf
  refine br.h2 h ?_ ?_ ?_
  · rfl
  · clear h; intro hb h; conv => whnf
    all_goals (cases h; cases hc)
    all_goals exact Res.of [4] rfl (nw_s (rn_T capi_Backend_flat) (hs_row rfl) nw_0) (by decide) (js_l (by decide) js_0) (wr_n wr_0)
  clear h; intro hb h; conv => whnf
  replace h := oreq.elim h; obtain ⟨hb, h⟩ := h
  first | (refine req.intro hb ?_; conv => whnf) | skip
  replace h := obind.elim h; obtain ⟨e, hy, h⟩ := h
  refine ld_T capi_Backend_len hy (by first | omega | exact Nat.zero_add _ | exact congrArg (· + _) (Nat.zero_add _)) rfl ?_
  conv => whnf
  refine br.h h ?_ ?_ ?_
  · rfl
  · clear h; intro hb h; conv => whnf
    cases h; simp only [Sum.elim_inl, head58_1] at hc
    exact lrA0 hc [(0, 0), (2, 2), (3, 3), (4, 4)] rfl
  clear h; intro hb h; conv => whnf
  refine br.h h ?_ ?_ ?_
  · rfl
  · clear h; intro hb h; conv => whnf
    replace h := oreq.elim h; obtain ⟨hb, h⟩ := h
    refine req.intro (ap_req (of_decide_eq_true hb) (by first | rfl | omega | (simp; done) | (simp; omega) | (simp at *; omega)) rfl (by first | rfl | omega | (simp; done) | (simp; omega) | (simp at *; omega)) (by first | rfl | exact vI_one _ _ | exact vS_one _ | exact vB_one _ | exact vT_one (by first | exact capi_Key_one | exact capi_Addr_one | exact capi_Backend_one | exact cArr4_Int_one | exact csip_Hasher_one | exact coctet_Reader_one | exact cR23_Step_one | exact chealth_Rule_one | exact chealth_State_one | exact cregistry_row_one) _ | (rw [ofBytes_vI]; exact vI_one _ _) | (simp [vI_one, vS_one, vB_one, vI_drop, vI_take, vS_drop, vS_take]; done) | (simp; exact List.all_eq_true.1 (vT_one (by first | exact capi_Key_one | exact capi_Addr_one | exact capi_Backend_one | exact cArr4_Int_one | exact csip_Hasher_one | exact coctet_Reader_one | exact cR23_Step_one | exact chealth_Rule_one | exact chealth_State_one | exact cregistry_row_one) _))) rfl) ?_
    conv => whnf
    let row : List api_Backend := c ++ [e]
    refine pk_apT capi_Backend_len (xs := c) (ys := [e]) rfl (by first | rfl | omega) (by first | rfl | omega | (simp; done) | (simp; omega) | (simp at *; omega)) (by first | rfl | omega | (simp; done) | (simp; omega) | (simp at *; omega)) ?_
    conv => whnf
    cases h; simp only [Sum.elim_inl, head58_1] at hc
    exact lrA0 hc [(0, 0), (2, 2), (3, 3), (4, 7)] rfl
  clear h; intro hb h; conv => whnf
  replace h := oreq.elim h; obtain ⟨hb, h⟩ := h
  refine req.intro (ap_req (of_decide_eq_true hb) (by first | rfl | omega | (simp; done) | (simp; omega) | (simp at *; omega)) rfl (by first | rfl | omega | (simp; done) | (simp; omega) | (simp at *; omega)) (by first | rfl | exact vI_one _ _ | exact vS_one _ | exact vB_one _ | exact vT_one (by first | exact capi_Key_one | exact capi_Addr_one | exact capi_Backend_one | exact cArr4_Int_one | exact csip_Hasher_one | exact coctet_Reader_one | exact cR23_Step_one | exact chealth_Rule_one | exact chealth_State_one | exact cregistry_row_one) _ | (rw [ofBytes_vI]; exact vI_one _ _) | (simp [vI_one, vS_one, vB_one, vI_drop, vI_take, vS_drop, vS_take]; done) | (simp; exact List.all_eq_true.1 (vT_one (by first | exact capi_Key_one | exact capi_Addr_one | exact capi_Backend_one | exact cArr4_Int_one | exact csip_Hasher_one | exact coctet_Reader_one | exact cR23_Step_one | exact chealth_Rule_one | exact chealth_State_one | exact cregistry_row_one) _))) rfl) ?_
  conv => whnf
  let row1 : List api_Backend := c ++ [api_Backend.mk e.ID e.Weight 1 e.Addr]
  refine pk_apT capi_Backend_len (xs := c) (ys := [api_Backend.mk e.ID e.Weight 1 e.Addr]) rfl (by first | rfl | omega) (by first | rfl | omega | (simp; done) | (simp; omega) | (simp at *; omega)) (by first | rfl | omega | (simp; done) | (simp; omega) | (simp at *; omega)) ?_
  conv => whnf
  cases h; simp only [Sum.elim_inl, head58_1] at hc
  exact lrA0 hc [(0, 0), (2, 2), (3, 3), (4, 7)] rfl
theorem leads58 (hS : SumsOK Try.prog (aget (sums58))) (k : api_Key) (last : Int) (l : List api_Backend) (res : saved_Record) (h : saved_OfF k last l = some res) :
    Leads Try.prog 58 1 ⟨⟨58, 34, [(0, .agg ⟨[.int .u64 k.A, .int .u64 k.B]⟩), (1, .int .i64 last), (2, .slice (some ⟨0, 0, none⟩) l.length 6)], [.code k58_31], [], false, none⟩, [], [(0, .row false (vT capi_Backend l))], 1⟩ (fun v H _ => Res 1 (rx58 res) v H) := by
  unfold saved_OfF at h
  refine ev_ok tab_ok hS true 3000 ?_
  conv => whnf
  have hl := loop58_1 hS _ _ _ res _ _ _ h rfl; simp only [head58_1] at hl
  refine Leads.nilC 3 3 6 ?_
  exact lrA0 hl [(0, 0), (2, 2), (3, 3), (4, 4)] rfl
theorem ok58 (hS : SumsOK Try.prog (aget (sums58))) : SumOK Try.prog 58 (s58 (saved_OfF)) := by
  refine SumOK.of_leads tab_ok (fun ar os r ha hr => ?_) ⟨Try.f58, rfl, by decide, rfl⟩
  replace hr : r58 (saved_OfF) ar (conts os) = some r := hr
  unfold r58 at hr
  generalize hc : conts os = C at hr
  replace hr := dV.elim hr; obtain ⟨v0, l1, y0, rfl, e0, hr⟩ := hr; obtain rfl := uvapi_Key_eq _ _ e0
  replace hr := dV.elim hr; obtain ⟨v1, l2, y1, rfl, e1, hr⟩ := hr; obtain rfl := asI_eq _ _ _ e1
  have hq := dSl.elim hr; clear hr; obtain ⟨c2, l3, C, y2, rfl, rfl, e2, hr⟩ := hq; obtain rfl := unT_eq unapi_Backend_eq e2
  replace hr := dFin hr; obtain ⟨rfl, rfl, x, h, rfl⟩ := hr
  obtain ⟨os, rfl, ha, hc⟩ := kinds_some ha hc
  obtain rfl := kinds_nil hc
  exact ⟨_, rfl, leads58 hS _ _ _ x h⟩
def saved_Of : api_Key → Int → (List api_Backend) → Option saved_Record := saved_OfF
theorem lift58 : SumOK Try.prog 58 (s58 saved_Of) := ok58 (SumsOK.of_tab trivial)
def R55_Of_s1 (k : api_Key) (last : Int) (l : List api_Backend) (i : Int) (c : List api_Backend) : Option (Sum (Int × (List api_Backend)) saved_Record) :=
  cond (decide (i < (l.length : Int)))
    (
    oreq (decide ((0 : Int) ≤ i ∧ i < (l.length : Int))) <|
    (l[i.toNat]?).bind fun (e : api_Backend) =>
    cond (e.State == 4)
      (
      some (.inl (wI .i64 (i + 1), c)))
      (
      cond (e.State != 3)
        (
        oreq (decide ((c.length + 1) * 48 ≤ 2 ^ 47)) <|
        let row := c ++ [api_Backend.mk e.ID e.Weight 1 e.Addr]
        some (.inl (wI .i64 (i + 1), row)))
        (
        oreq (decide ((c.length + 1) * 48 ≤ 2 ^ 47)) <|
        let row1 := c ++ [e]
        some (.inl (wI .i64 (i + 1), row1)))))
    (
    some (.inr (saved_Record.mk k last c)))
def R55_OfF (k : api_Key) (last : Int) (l : List api_Backend) : Option saved_Record :=
  iter (fun st => R55_Of_s1 k last l st.1 st.2) FUEL (0, [])
def rx59 (x : saved_Record) : SRes := ⟨.agg ⟨[.int .u64 x.Key.A, .int .u64 x.Key.B, .int .i64 x.Last, .slice (some ⟨0, 0, none⟩) x.L.length 6]⟩, [(vT capi_Backend x.L)], [none]⟩
def r59 (g : api_Key → Int → (List api_Backend) → Option saved_Record) : Dec := dV uvapi_Key fun (y0 : api_Key) => dV (asI .i64) fun (y1 : Int) => dSl 0 6 (unR 6 unapi_Backend) fun (y2 : List api_Backend) => dEnd (ofG (g y0 y1 y2) rx59)
theorem r59_c {g : api_Key → Int → (List api_Backend) → Option saved_Record} {y0 : api_Key} {y1 : Int} {y2 : List api_Backend} {x : saved_Record} (hx : g y0 y1 y2 = some x) : r59 g [.agg ⟨[.int .u64 y0.A, .int .u64 y0.B]⟩, .int .i64 y1, .slice (some ⟨0, 0, none⟩) y2.length 6] [some (vT capi_Backend y2)] = some (rx59 x) := (dV_eq (uvapi_Key_c _)).trans ((dV_eq (asI_c _)).trans ((dSl_eq (unR_vT (by first | exact capi_Key_len | exact capi_Addr_len | exact capi_Backend_len | exact cArr4_Int_len | exact csip_Hasher_len | exact coctet_Reader_len | exact cR23_Step_len | exact chealth_Rule_len | exact chealth_State_len | exact cregistry_row_len) (by decide) unapi_Backend_c _)).trans (ofG_eq hx)))
def s59 (g : api_Key → Int → (List api_Backend) → Option saved_Record) : Summ := ⟨[.v, .v, .sl 6], r59 g⟩
theorem r59_eq {g : api_Key → Int → (List api_Backend) → Option saved_Record} {y0 : api_Key} {y1 : Int} {y2 : List api_Backend} {x : saved_Record} (hx : g y0 y1 y2 = some x) : (s59 g).run [.agg ⟨[.int .u64 y0.A, .int .u64 y0.B]⟩, .int .i64 y1, .slice (some ⟨0, 0, none⟩) y2.length 6] [some (vT capi_Backend y2)] = some (rx59 x) := r59_c hx
abbrev sums59 : List (Nat × Summ) := []
def head59_1 (k : api_Key) (last : Int) (l : List api_Backend) (i : Int) (c : List api_Backend) : VM :=
  ⟨⟨59, 37, [(2, .slice (some ⟨0, 0, none⟩) l.length 6), (6, .pointer (some ⟨2, 0, none⟩)), (7, .pointer (some ⟨3, 0, none⟩)), (8, .int .i64 i)], [.code k59_21, .inLoop k59_21, .inBlock 0, .code k59_26], [], false, none⟩, [], [(0, .row false (vT capi_Backend l)), (2, .cells [.int .u64 0, .int .u64 0, .int .i64 0, .slice none 0 0]), (3, .cells [.int .u64 k.A, .int .u64 k.B, .int .i64 last, .slice (some ⟨4, 0, none⟩) c.length 6]), (4, .row true (vT capi_Backend c))], 5⟩
theorem loop59_1 (hS : SumsOK Try.prog (aget (sums59))) (k : api_Key) (last : Int) (l : List api_Backend) (res : saved_Record) : ∀ fuel (st : Int × (List api_Backend)) (o : saved_Record), iter (fun st => R55_Of_s1 k last l st.1 st.2) fuel st = some o → (o = res) →
    Leads Try.prog 59 1 (head59_1 k last l st.1 st.2) (fun v H _ => Res 1 (rx59 res) v H) := by
  intro fuel st o h hc
  refine iter_leads (head := fun st => head59_1 k last l st.1 st.2) (C := fun o => (o = res)) ?_ fuel st o h hc
  clear h hc o st fuel
  intro st o h hc
  obtain ⟨i, c⟩ := st
  replace h : R55_Of_s1 k last l i c = some o := h
  show Leads Try.prog 59 1 (head59_1 k last l i c) (fun v H _ => Res 1 (rx59 res) v H)
  unfold R55_Of_s1 at h
  refine ev_ok tab_ok hS true 3000 ?_
  conv => whnf
  refine br.h2 h ?_ ?_ ?_
  · rfl
  · clear h; intro hb h; conv => whnf
    all_goals (cases h; cases hc)
    all_goals exact Res.of [4] rfl (nw_s (rn_T capi_Backend_flat) (hs_row rfl) nw_0) (by decide) (js_l (by decide) js_0) (wr_n wr_0)
  clear h; intro hb h; conv => whnf
  replace h := oreq.elim h; obtain ⟨hb, h⟩ := h
  first | (refine req.intro hb ?_; conv => whnf) | skip
  replace h := obind.elim h; obtain ⟨e, hy, h⟩ := h
  refine ld_T capi_Backend_len hy (by first | omega | exact Nat.zero_add _ | exact congrArg (· + _) (Nat.zero_add _)) rfl ?_
  conv => whnf
  refine br.h h ?_ ?_ ?_
  · rfl
  · clear h; intro hb h; conv => whnf
    cases h; simp only [Sum.elim_inl, head59_1] at hc
    exact lrA0 hc [(0, 0), (2, 2), (3, 3), (4, 4)] rfl
  clear h; intro hb h; conv => whnf
  refine br.h h ?_ ?_ ?_
  · rfl
  · clear h; intro hb h; conv => whnf
    replace h := oreq.elim h; obtain ⟨hb, h⟩ := h
    refine req.intro (ap_req (of_decide_eq_true hb) (by first | rfl | omega | (simp; done) | (simp; omega) | (simp at *; omega)) rfl (by first | rfl | omega | (simp; done) | (simp; omega) | (simp at *; omega)) (by first | rfl | exact vI_one _ _ | exact vS_one _ | exact vB_one _ | exact vT_one (by first | exact capi_Key_one | exact capi_Addr_one | exact capi_Backend_one | exact cArr4_Int_one | exact csip_Hasher_one | exact coctet_Reader_one | exact cR23_Step_one | exact chealth_Rule_one | exact chealth_State_one | exact cregistry_row_one) _ | (rw [ofBytes_vI]; exact vI_one _ _) | (simp [vI_one, vS_one, vB_one, vI_drop, vI_take, vS_drop, vS_take]; done) | (simp; exact List.all_eq_true.1 (vT_one (by first | exact capi_Key_one | exact capi_Addr_one | exact capi_Backend_one | exact cArr4_Int_one | exact csip_Hasher_one | exact coctet_Reader_one | exact cR23_Step_one | exact chealth_Rule_one | exact chealth_State_one | exact cregistry_row_one) _))) rfl) ?_
    conv => whnf
    let row : List api_Backend := c ++ [api_Backend.mk e.ID e.Weight 1 e.Addr]
    refine pk_apT capi_Backend_len (xs := c) (ys := [api_Backend.mk e.ID e.Weight 1 e.Addr]) rfl (by first | rfl | omega) (by first | rfl | omega | (simp; done) | (simp; omega) | (simp at *; omega)) (by first | rfl | omega | (simp; done) | (simp; omega) | (simp at *; omega)) ?_
    conv => whnf
    cases h; simp only [Sum.elim_inl, head59_1] at hc
    exact lrA0 hc [(0, 0), (2, 2), (3, 3), (4, 7)] rfl
  clear h; intro hb h; conv => whnf
  replace h := oreq.elim h; obtain ⟨hb, h⟩ := h
  refine req.intro (ap_req (of_decide_eq_true hb) (by first | rfl | omega | (simp; done) | (simp; omega) | (simp at *; omega)) rfl (by first | rfl | omega | (simp; done) | (simp; omega) | (simp at *; omega)) (by first | rfl | exact vI_one _ _ | exact vS_one _ | exact vB_one _ | exact vT_one (by first | exact capi_Key_one | exact capi_Addr_one | exact capi_Backend_one | exact cArr4_Int_one | exact csip_Hasher_one | exact coctet_Reader_one | exact cR23_Step_one | exact chealth_Rule_one | exact chealth_State_one | exact cregistry_row_one) _ | (rw [ofBytes_vI]; exact vI_one _ _) | (simp [vI_one, vS_one, vB_one, vI_drop, vI_take, vS_drop, vS_take]; done) | (simp; exact List.all_eq_true.1 (vT_one (by first | exact capi_Key_one | exact capi_Addr_one | exact capi_Backend_one | exact cArr4_Int_one | exact csip_Hasher_one | exact coctet_Reader_one | exact cR23_Step_one | exact chealth_Rule_one | exact chealth_State_one | exact cregistry_row_one) _))) rfl) ?_
  conv => whnf
  let row1 : List api_Backend := c ++ [e]
  refine pk_apT capi_Backend_len (xs := c) (ys := [e]) rfl (by first | rfl | omega) (by first | rfl | omega | (simp; done) | (simp; omega) | (simp at *; omega)) (by first | rfl | omega | (simp; done) | (simp; omega) | (simp at *; omega)) ?_
  conv => whnf
  cases h; simp only [Sum.elim_inl, head59_1] at hc
  exact lrA0 hc [(0, 0), (2, 2), (3, 3), (4, 7)] rfl
theorem leads59 (hS : SumsOK Try.prog (aget (sums59))) (k : api_Key) (last : Int) (l : List api_Backend) (res : saved_Record) (h : R55_OfF k last l = some res) :
    Leads Try.prog 59 1 ⟨⟨59, 37, [(0, .agg ⟨[.int .u64 k.A, .int .u64 k.B]⟩), (1, .int .i64 last), (2, .slice (some ⟨0, 0, none⟩) l.length 6)], [.code k59_29], [], false, none⟩, [], [(0, .row false (vT capi_Backend l))], 1⟩ (fun v H _ => Res 1 (rx59 res) v H) := by
  unfold R55_OfF at h
  refine ev_ok tab_ok hS true 3000 ?_
  conv => whnf
  have hl := loop59_1 hS _ _ _ res _ _ _ h rfl; simp only [head59_1] at hl
  refine Leads.nilC 3 3 6 ?_
  exact lrA0 hl [(0, 0), (2, 2), (3, 3), (4, 4)] rfl
theorem ok59 (hS : SumsOK Try.prog (aget (sums59))) : SumOK Try.prog 59 (s59 (R55_OfF)) := by
  refine SumOK.of_leads tab_ok (fun ar os r ha hr => ?_) ⟨Try.f59, rfl, by decide, rfl⟩
  replace hr : r59 (R55_OfF) ar (conts os) = some r := hr
  unfold r59 at hr
  generalize hc : conts os = C at hr
  replace hr := dV.elim hr; obtain ⟨v0, l1, y0, rfl, e0, hr⟩ := hr; obtain rfl := uvapi_Key_eq _ _ e0
  replace hr := dV.elim hr; obtain ⟨v1, l2, y1, rfl, e1, hr⟩ := hr; obtain rfl := asI_eq _ _ _ e1
  have hq := dSl.elim hr; clear hr; obtain ⟨c2, l3, C, y2, rfl, rfl, e2, hr⟩ := hq; obtain rfl := unT_eq unapi_Backend_eq e2
  replace hr := dFin hr; obtain ⟨rfl, rfl, x, h, rfl⟩ := hr
  obtain ⟨os, rfl, ha, hc⟩ := kinds_some ha hc
  obtain rfl := kinds_nil hc
  exact ⟨_, rfl, leads59 hS _ _ _ x h⟩
def R55_Of : api_Key → Int → (List api_Backend) → Option saved_Record := R55_OfF
theorem lift59 : SumOK Try.prog 59 (s59 R55_Of) := ok59 (SumsOK.of_tab trivial)
def slices_Equal_api_Backend_api_Backend_s1 (s1 : List api_Backend) (s2 : List api_Backend) (t13 : Int) : Option (Sum Int Bool) :=
  cond (decide (t13 < (s1.length : Int)))
    (
    oreq (decide ((0 : Int) ≤ t13 ∧ t13 < (s1.length : Int))) <|
    (s1[t13.toNat]?).bind fun (e : api_Backend) =>
    oreq (decide ((0 : Int) ≤ t13 ∧ t13 < (s2.length : Int))) <|
    (s2[t13.toNat]?).bind fun (e1 : api_Backend) =>
    let t := !((e.ID == e1.ID) && ((e.Weight == e1.Weight) && ((e.State == e1.State) && ((e.Addr.V6 == e1.Addr.V6) && ((e.Addr.Hi == e1.Addr.Hi) && ((e.Addr.Lo == e1.Addr.Lo) && true))))))
    cond (t)
      (
      some (.inr (false)))
      (
      some (.inl (wI .i64 (t13 + 1)))))
    (
    some (.inr (true)))
def slices_Equal_api_Backend_api_BackendF (s1 : List api_Backend) (s2 : List api_Backend) : Option Bool :=
  cond ((s1.length : Int) != (s2.length : Int))
    (
    some (false))
    (
    iter (fun st => slices_Equal_api_Backend_api_Backend_s1 s1 s2 st) FUEL 0)
def rx116 (x : Bool) : SRes := ⟨.bool x, [], [none, none]⟩
def r116 (g : (List api_Backend) → (List api_Backend) → Option Bool) : Dec := dSl 0 6 (unR 6 unapi_Backend) fun (y0 : List api_Backend) => dSl 1 6 (unR 6 unapi_Backend) fun (y1 : List api_Backend) => dEnd (ofG (g y0 y1) rx116)
theorem r116_c {g : (List api_Backend) → (List api_Backend) → Option Bool} {y0 : List api_Backend} {y1 : List api_Backend} {x : Bool} (hx : g y0 y1 = some x) : r116 g [.slice (some ⟨0, 0, none⟩) y0.length 6, .slice (some ⟨1, 0, none⟩) y1.length 6] [some (vT capi_Backend y0), some (vT capi_Backend y1)] = some (rx116 x) := (dSl_eq (unR_vT (by first | exact capi_Key_len | exact capi_Addr_len | exact capi_Backend_len | exact cArr4_Int_len | exact csip_Hasher_len | exact coctet_Reader_len | exact cR23_Step_len | exact chealth_Rule_len | exact chealth_State_len | exact cregistry_row_len) (by decide) unapi_Backend_c _)).trans ((dSl_eq (unR_vT (by first | exact capi_Key_len | exact capi_Addr_len | exact capi_Backend_len | exact cArr4_Int_len | exact csip_Hasher_len | exact coctet_Reader_len | exact cR23_Step_len | exact chealth_Rule_len | exact chealth_State_len | exact cregistry_row_len) (by decide) unapi_Backend_c _)).trans (ofG_eq hx))
def s116 (g : (List api_Backend) → (List api_Backend) → Option Bool) : Summ := ⟨[.sl 6, .sl 6], r116 g⟩
theorem r116_eq {g : (List api_Backend) → (List api_Backend) → Option Bool} {y0 : List api_Backend} {y1 : List api_Backend} {x : Bool} (hx : g y0 y1 = some x) : (s116 g).run [.slice (some ⟨0, 0, none⟩) y0.length 6, .slice (some ⟨1, 0, none⟩) y1.length 6] [some (vT capi_Backend y0), some (vT capi_Backend y1)] = some (rx116 x) := r116_c hx
abbrev sums116 : List (Nat × Summ) := []
def head116_1 (s1 : List api_Backend) (s2 : List api_Backend) (t13 : Int) : VM :=
  ⟨⟨116, 26, [(0, .slice (some ⟨0, 0, none⟩) s1.length 6), (1, .slice (some ⟨1, 0, none⟩) s2.length 6), (12, .int .i64 (s1.length : Int)), (13, .int .i64 t13)], [.code k116_20, .inLoop k116_20, .inBlock 0, .code k116_25], [], false, none⟩, [], [(0, .row false (vT capi_Backend s1)), (1, .row false (vT capi_Backend s2))], 2⟩
theorem loop116_1 (hS : SumsOK Try.prog (aget (sums116))) (s1 : List api_Backend) (s2 : List api_Backend) (res : Bool) : ∀ fuel (st : Int) (o : Bool), iter (fun st => slices_Equal_api_Backend_api_Backend_s1 s1 s2 st) fuel st = some o → (o = res) →
    Leads Try.prog 116 2 (head116_1 s1 s2 st) (fun v H _ => Res 2 (rx116 res) v H) := by
  intro fuel st o h hc
  refine iter_leads (head := fun st => head116_1 s1 s2 st) (C := fun o => (o = res)) ?_ fuel st o h hc
  clear h hc o st fuel
  intro t13 o h hc
  replace h : slices_Equal_api_Backend_api_Backend_s1 s1 s2 t13 = some o := h
  show Leads Try.prog 116 2 (head116_1 s1 s2 t13) (fun v H _ => Res 2 (rx116 res) v H)
  unfold slices_Equal_api_Backend_api_Backend_s1 at h
  refine ev_ok tab_ok hS true 3000 ?_
  conv => whnf
  refine br.h2 h ?_ ?_ ?_
  · rfl
  · clear h; intro hb h; conv => whnf
    all_goals (cases h; cases hc)
    all_goals exact Res.of [] rfl nw_0 (by decide) js_0 (wr_n (wr_n wr_0))
  clear h; intro hb h; conv => whnf
  replace h := oreq.elim h; obtain ⟨hb, h⟩ := h
  first | (refine req.intro hb ?_; conv => whnf) | skip
  replace h := obind.elim h; obtain ⟨e, hy, h⟩ := h
  refine ld_T capi_Backend_len hy (by first | omega | exact Nat.zero_add _ | exact congrArg (· + _) (Nat.zero_add _)) rfl ?_
  conv => whnf
  replace h := oreq.elim h; obtain ⟨hb, h⟩ := h
  first | (refine req.intro hb ?_; conv => whnf) | skip
  replace h := obind.elim h; obtain ⟨e1, hy, h⟩ := h
  refine ld_T capi_Backend_len hy (by first | omega | exact Nat.zero_add _ | exact congrArg (· + _) (Nat.zero_add _)) rfl ?_
  conv => whnf
  let t : Bool := !((e.ID == e1.ID) && ((e.Weight == e1.Weight) && ((e.State == e1.State) && ((e.Addr.V6 == e1.Addr.V6) && ((e.Addr.Hi == e1.Addr.Hi) && ((e.Addr.Lo == e1.Addr.Lo) && true))))))
  refine br.h h ?_ ?_ ?_
  · rfl
  · clear h; intro hb h; conv => whnf
    all_goals (cases h; cases hc)
    all_goals exact Res.of [] rfl nw_0 (by decide) js_0 (wr_n (wr_n wr_0))
  clear h; intro hb h; conv => whnf
  cases h; simp only [Sum.elim_inl, head116_1] at hc
  exact lrA0 hc [(0, 0), (1, 1)] rfl
theorem leads116 (hS : SumsOK Try.prog (aget (sums116))) (s1 : List api_Backend) (s2 : List api_Backend) (res : Bool) (h : slices_Equal_api_Backend_api_BackendF s1 s2 = some res) :
    Leads Try.prog 116 2 ⟨⟨116, 26, [(0, .slice (some ⟨0, 0, none⟩) s1.length 6), (1, .slice (some ⟨1, 0, none⟩) s2.length 6)], [.code k116_28], [], false, none⟩, [], [(0, .row false (vT capi_Backend s1)), (1, .row false (vT capi_Backend s2))], 2⟩ (fun v H _ => Res 2 (rx116 res) v H) := by
  unfold slices_Equal_api_Backend_api_BackendF at h
  refine ev_ok tab_ok hS true 3000 ?_
  conv => whnf
  refine br.h h ?_ ?_ ?_
  · rfl
  · clear h; intro hb h; conv => whnf
    all_goals (cases h)
    all_goals exact Res.of [] rfl nw_0 (by decide) js_0 (wr_n (wr_n wr_0))
  clear h; intro hb h; conv => whnf
  have hl := loop116_1 hS _ _ res _ _ _ h rfl; simp only [head116_1] at hl
  exact lrA0 hl [(0, 0), (1, 1)] rfl
theorem ok116 (hS : SumsOK Try.prog (aget (sums116))) : SumOK Try.prog 116 (s116 (slices_Equal_api_Backend_api_BackendF)) := by
  refine SumOK.of_leads tab_ok (fun ar os r ha hr => ?_) ⟨Try.f116, rfl, by decide, rfl⟩
  replace hr : r116 (slices_Equal_api_Backend_api_BackendF) ar (conts os) = some r := hr
  unfold r116 at hr
  generalize hc : conts os = C at hr
  have hq := dSl.elim hr; clear hr; obtain ⟨c0, l1, C, y0, rfl, rfl, e0, hr⟩ := hq; obtain rfl := unT_eq unapi_Backend_eq e0
  have hq := dSl.elim hr; clear hr; obtain ⟨c1, l2, C, y1, rfl, rfl, e1, hr⟩ := hq; obtain rfl := unT_eq unapi_Backend_eq e1
  replace hr := dFin hr; obtain ⟨rfl, rfl, x, h, rfl⟩ := hr
  obtain ⟨os, rfl, ha, hc⟩ := kinds_some ha hc
  obtain ⟨os, rfl, ha, hc⟩ := kinds_some ha hc
  obtain rfl := kinds_nil hc
  exact ⟨_, rfl, leads116 hS _ _ x h⟩
def slices_Equal_api_Backend_api_Backend : (List api_Backend) → (List api_Backend) → Option Bool := slices_Equal_api_Backend_api_BackendF
theorem lift116 : SumOK Try.prog 116 (s116 slices_Equal_api_Backend_api_Backend) := ok116 (SumsOK.of_tab trivial)
def saved_SameF (slices_Equal_api_Backend_api_Backend : (List api_Backend) → (List api_Backend) → Option Bool) (a : saved_Record) (b : saved_Record) : Option Bool :=
  let t := (a.Key.A == b.Key.A) && ((a.Key.B == b.Key.B) && true)
  cond (t)
    (
    cond (a.Last == b.Last)
      (
      (slices_Equal_api_Backend_api_Backend a.L b.L).bind fun b1 =>
      some (b1))
      (
      some (false)))
    (
    some (false))
def rx60 (x : Bool) : SRes := ⟨.bool x, [], [none, none]⟩
def r60 (g : saved_Record → saved_Record → Option Bool) : Dec := dTr 1 (udsaved_Record 0) fun (y0 : saved_Record) => dTr 1 (udsaved_Record 1) fun (y1 : saved_Record) => dEnd (ofG (g y0 y1) rx60)
theorem r60_c {g : saved_Record → saved_Record → Option Bool} {y0 : saved_Record} {y1 : saved_Record} {x : Bool} (hx : g y0 y1 = some x) : r60 g [.agg ⟨[.int .u64 y0.Key.A, .int .u64 y0.Key.B, .int .i64 y0.Last, .slice (some ⟨0, 0, none⟩) y0.L.length 6]⟩, .agg ⟨[.int .u64 y1.Key.A, .int .u64 y1.Key.B, .int .i64 y1.Last, .slice (some ⟨1, 0, none⟩) y1.L.length 6]⟩] [some (vT capi_Backend y0.L), some (vT capi_Backend y1.L)] = some (rx60 x) := (dTr_eq rfl rfl (udsaved_Record_c 0 _)).trans ((dTr_eq rfl rfl (udsaved_Record_c 1 _)).trans (ofG_eq hx))
def s60 (g : saved_Record → saved_Record → Option Bool) : Summ := ⟨[.tr [⟨none, 3, 0, 0, some 6⟩], .tr [⟨none, 3, 0, 0, some 6⟩]], r60 g⟩
theorem r60_eq {g : saved_Record → saved_Record → Option Bool} {y0 : saved_Record} {y1 : saved_Record} {x : Bool} (hx : g y0 y1 = some x) : (s60 g).run [.agg ⟨[.int .u64 y0.Key.A, .int .u64 y0.Key.B, .int .i64 y0.Last, .slice (some ⟨0, 0, none⟩) y0.L.length 6]⟩, .agg ⟨[.int .u64 y1.Key.A, .int .u64 y1.Key.B, .int .i64 y1.Last, .slice (some ⟨1, 0, none⟩) y1.L.length 6]⟩] [some (vT capi_Backend y0.L), some (vT capi_Backend y1.L)] = some (rx60 x) := r60_c hx
abbrev sums60 (slices_Equal_api_Backend_api_Backend : (List api_Backend) → (List api_Backend) → Option Bool) : List (Nat × Summ) := [(116, s116 slices_Equal_api_Backend_api_Backend)]
theorem leads60 (slices_Equal_api_Backend_api_Backend : (List api_Backend) → (List api_Backend) → Option Bool) (hS : SumsOK Try.prog (aget (sums60 slices_Equal_api_Backend_api_Backend))) (a : saved_Record) (b : saved_Record) (res : Bool) (h : saved_SameF slices_Equal_api_Backend_api_Backend a b = some res) :
    Leads Try.prog 60 2 ⟨⟨60, 24, [(0, .agg ⟨[.int .u64 a.Key.A, .int .u64 a.Key.B, .int .i64 a.Last, .slice (some ⟨0, 0, none⟩) a.L.length 6]⟩), (1, .agg ⟨[.int .u64 b.Key.A, .int .u64 b.Key.B, .int .i64 b.Last, .slice (some ⟨1, 0, none⟩) b.L.length 6]⟩)], [.code k60_3], [], false, none⟩, [], [(0, .row false (vT capi_Backend a.L)), (1, .row false (vT capi_Backend b.L))], 2⟩ (fun v H _ => Res 2 (rx60 res) v H) := by
  unfold saved_SameF at h
  refine ev_ok tab_ok hS true 3000 ?_
  conv => whnf
  let t : Bool := (a.Key.A == b.Key.A) && ((a.Key.B == b.Key.B) && true)
  refine br.h2 h ?_ ?_ ?_
  · rfl
  · clear h; intro hb h; conv => whnf
    all_goals (cases h)
    all_goals exact Res.of [] rfl nw_0 (by decide) js_0 (wr_n (wr_n wr_0))
  clear h; intro hb h; conv => whnf
  refine br.h2 h ?_ ?_ ?_
  · rfl
  · clear h; intro hb h; conv => whnf
    all_goals (cases h)
    all_goals exact Res.of [] rfl nw_0 (by decide) js_0 (wr_n (wr_n wr_0))
  clear h; intro hb h; conv => whnf
  replace h := obind.elim h; obtain ⟨b1, hy, h⟩ := h
  refine sumK.introF [] (sumRun_of (aqs := [.slice (some ⟨0, 0, none⟩) (a.L : List api_Backend).length 6, .slice (some ⟨1, 0, none⟩) (b.L : List api_Backend).length 6]) (ws := [.win 0 0 (a.L.length * 6) false, .win 1 0 (b.L.length * 6) false]) (n := 0) (m := 0) (t' := 4) (ra_cons (by first | rfl | exact ra_allT capi_Backend_len capi_Backend_flat rfl rfl (by first | rfl | omega) (by first | rfl | (simp; done)) | exact ra_slT capi_Backend_len capi_Backend_flat rfl rfl (by first | rfl | omega) (by first | rfl | omega) (by first | omega | (simp at *; omega))) rfl (ra_cons (by first | rfl | exact ra_allT capi_Backend_len capi_Backend_flat rfl rfl (by first | rfl | omega) (by first | rfl | (simp; done)) | exact ra_slT capi_Backend_len capi_Backend_flat rfl rfl (by first | rfl | omega) (by first | rfl | omega) (by first | omega | (simp at *; omega))) rfl ra_nil)) rfl (by rfl) (r116_eq hy) rfl rfl rfl rfl (wb_skip rfl (wb_skip rfl wb_nil)) an_nil rfl) ?_
  conv => whnf
  all_goals (cases h)
  all_goals exact Res.of [] rfl nw_0 (by decide) js_0 (wr_n (wr_n wr_0))
theorem ok60 (slices_Equal_api_Backend_api_Backend : (List api_Backend) → (List api_Backend) → Option Bool) (hS : SumsOK Try.prog (aget (sums60 slices_Equal_api_Backend_api_Backend))) : SumOK Try.prog 60 (s60 (saved_SameF slices_Equal_api_Backend_api_Backend)) := by
  refine SumOK.of_leads tab_ok (fun ar os r ha hr => ?_) ⟨Try.f60, rfl, by decide, rfl⟩
  replace hr : r60 (saved_SameF slices_Equal_api_Backend_api_Backend) ar (conts os) = some r := hr
  unfold r60 at hr
  generalize hc : conts os = C at hr
  have hq := dTr.elim hr; clear hr; obtain ⟨v0, l1, c0, C, y0, rfl, rfl, e0, hr⟩ := hq; obtain ⟨rfl, rfl⟩ := udsaved_Record_eq e0; simp only [List.nil_append, List.cons_append] at hc
  have hq := dTr.elim hr; clear hr; obtain ⟨v1, l2, c1, C, y1, rfl, rfl, e1, hr⟩ := hq; obtain ⟨rfl, rfl⟩ := udsaved_Record_eq e1; simp only [List.nil_append, List.cons_append] at hc
  replace hr := dFin hr; obtain ⟨rfl, rfl, x, h, rfl⟩ := hr
  obtain ⟨os, rfl, ha, hc⟩ := kinds_some ha hc
  obtain ⟨os, rfl, ha, hc⟩ := kinds_some ha hc
  obtain rfl := kinds_nil hc
  exact ⟨_, rfl, leads60 slices_Equal_api_Backend_api_Backend hS _ _ x h⟩
def saved_Same : saved_Record → saved_Record → Option Bool := saved_SameF slices_Equal_api_Backend_api_Backend
theorem lift60 : SumOK Try.prog 60 (s60 saved_Same) := ok60 slices_Equal_api_Backend_api_Backend (SumsOK.of_tab ⟨lift116, trivial⟩)
def R23_Same_s1 (a : List api_Backend) (b : List api_Backend) (i : Int) : Option (Sum Int Bool) :=
  cond (decide (i < (a.length : Int)))
    (
    oreq (decide ((0 : Int) ≤ i ∧ i < (a.length : Int))) <|
    (a[i.toNat]?).bind fun (e : api_Backend) =>
    oreq (decide ((0 : Int) ≤ i ∧ i < (b.length : Int))) <|
    (b[i.toNat]?).bind fun (e1 : api_Backend) =>
    let t := !((e.ID == e1.ID) && ((e.Weight == e1.Weight) && ((e.State == e1.State) && ((e.Addr.V6 == e1.Addr.V6) && ((e.Addr.Hi == e1.Addr.Hi) && ((e.Addr.Lo == e1.Addr.Lo) && true))))))
    cond (t)
      (
      some (.inr (false)))
      (
      some (.inl (wI .i64 (i + 1)))))
    (
    some (.inr (true)))
def R23_SameF (a : List api_Backend) (b : List api_Backend) : Option Bool :=
  cond ((a.length : Int) != (b.length : Int))
    (
    some (false))
    (
    iter (fun st => R23_Same_s1 a b st) FUEL 0)
def rx21 (x : Bool) : SRes := ⟨.bool x, [], [none, none]⟩
def r21 (g : (List api_Backend) → (List api_Backend) → Option Bool) : Dec := dSl 0 6 (unR 6 unapi_Backend) fun (y0 : List api_Backend) => dSl 1 6 (unR 6 unapi_Backend) fun (y1 : List api_Backend) => dEnd (ofG (g y0 y1) rx21)
theorem r21_c {g : (List api_Backend) → (List api_Backend) → Option Bool} {y0 : List api_Backend} {y1 : List api_Backend} {x : Bool} (hx : g y0 y1 = some x) : r21 g [.slice (some ⟨0, 0, none⟩) y0.length 6, .slice (some ⟨1, 0, none⟩) y1.length 6] [some (vT capi_Backend y0), some (vT capi_Backend y1)] = some (rx21 x) := (dSl_eq (unR_vT (by first | exact capi_Key_len | exact capi_Addr_len | exact capi_Backend_len | exact cArr4_Int_len | exact csip_Hasher_len | exact coctet_Reader_len | exact cR23_Step_len | exact chealth_Rule_len | exact chealth_State_len | exact cregistry_row_len) (by decide) unapi_Backend_c _)).trans ((dSl_eq (unR_vT (by first | exact capi_Key_len | exact capi_Addr_len | exact capi_Backend_len | exact cArr4_Int_len | exact csip_Hasher_len | exact coctet_Reader_len | exact cR23_Step_len | exact chealth_Rule_len | exact chealth_State_len | exact cregistry_row_len) (by decide) unapi_Backend_c _)).trans (ofG_eq hx))
def s21 (g : (List api_Backend) → (List api_Backend) → Option Bool) : Summ := ⟨[.sl 6, .sl 6], r21 g⟩
theorem r21_eq {g : (List api_Backend) → (List api_Backend) → Option Bool} {y0 : List api_Backend} {y1 : List api_Backend} {x : Bool} (hx : g y0 y1 = some x) : (s21 g).run [.slice (some ⟨0, 0, none⟩) y0.length 6, .slice (some ⟨1, 0, none⟩) y1.length 6] [some (vT capi_Backend y0), some (vT capi_Backend y1)] = some (rx21 x) := r21_c hx
abbrev sums21 : List (Nat × Summ) := []
def head21_1 (a : List api_Backend) (b : List api_Backend) (i : Int) : VM :=
  ⟨⟨21, 26, [(0, .slice (some ⟨0, 0, none⟩) a.length 6), (1, .slice (some ⟨1, 0, none⟩) b.length 6), (5, .int .i64 i)], [.code k21_18, .inLoop k21_18, .inBlock 0, .code k21_23], [], false, none⟩, [], [(0, .row false (vT capi_Backend a)), (1, .row false (vT capi_Backend b))], 2⟩
theorem loop21_1 (hS : SumsOK Try.prog (aget (sums21))) (a : List api_Backend) (b : List api_Backend) (res : Bool) : ∀ fuel (st : Int) (o : Bool), iter (fun st => R23_Same_s1 a b st) fuel st = some o → (o = res) →
    Leads Try.prog 21 2 (head21_1 a b st) (fun v H _ => Res 2 (rx21 res) v H) := by
  intro fuel st o h hc
  refine iter_leads (head := fun st => head21_1 a b st) (C := fun o => (o = res)) ?_ fuel st o h hc
  clear h hc o st fuel
  intro i o h hc
  replace h : R23_Same_s1 a b i = some o := h
  show Leads Try.prog 21 2 (head21_1 a b i) (fun v H _ => Res 2 (rx21 res) v H)
  unfold R23_Same_s1 at h
  refine ev_ok tab_ok hS true 3000 ?_
  conv => whnf
  refine br.h2 h ?_ ?_ ?_
  · rfl
  · clear h; intro hb h; conv => whnf
    all_goals (cases h; cases hc)
    all_goals exact Res.of [] rfl nw_0 (by decide) js_0 (wr_n (wr_n wr_0))
  clear h; intro hb h; conv => whnf
  replace h := oreq.elim h; obtain ⟨hb, h⟩ := h
  first | (refine req.intro hb ?_; conv => whnf) | skip
  replace h := obind.elim h; obtain ⟨e, hy, h⟩ := h
  refine ld_T capi_Backend_len hy (by first | omega | exact Nat.zero_add _ | exact congrArg (· + _) (Nat.zero_add _)) rfl ?_
  conv => whnf
  replace h := oreq.elim h; obtain ⟨hb, h⟩ := h
  first | (refine req.intro hb ?_; conv => whnf) | skip
  replace h := obind.elim h; obtain ⟨e1, hy, h⟩ := h
  refine ld_T capi_Backend_len hy (by first | omega | exact Nat.zero_add _ | exact congrArg (· + _) (Nat.zero_add _)) rfl ?_
  conv => whnf
  let t : Bool := !((e.ID == e1.ID) && ((e.Weight == e1.Weight) && ((e.State == e1.State) && ((e.Addr.V6 == e1.Addr.V6) && ((e.Addr.Hi == e1.Addr.Hi) && ((e.Addr.Lo == e1.Addr.Lo) && true))))))
  refine br.h h ?_ ?_ ?_
  · rfl
  · clear h; intro hb h; conv => whnf
    all_goals (cases h; cases hc)
    all_goals exact Res.of [] rfl nw_0 (by decide) js_0 (wr_n (wr_n wr_0))
  clear h; intro hb h; conv => whnf
  cases h; simp only [Sum.elim_inl, head21_1] at hc
  exact lrA0 hc [(0, 0), (1, 1)] rfl
theorem leads21 (hS : SumsOK Try.prog (aget (sums21))) (a : List api_Backend) (b : List api_Backend) (res : Bool) (h : R23_SameF a b = some res) :
    Leads Try.prog 21 2 ⟨⟨21, 26, [(0, .slice (some ⟨0, 0, none⟩) a.length 6), (1, .slice (some ⟨1, 0, none⟩) b.length 6)], [.code k21_26], [], false, none⟩, [], [(0, .row false (vT capi_Backend a)), (1, .row false (vT capi_Backend b))], 2⟩ (fun v H _ => Res 2 (rx21 res) v H) := by
  unfold R23_SameF at h
  refine ev_ok tab_ok hS true 3000 ?_
  conv => whnf
  refine br.h h ?_ ?_ ?_
  · rfl
  · clear h; intro hb h; conv => whnf
    all_goals (cases h)
    all_goals exact Res.of [] rfl nw_0 (by decide) js_0 (wr_n (wr_n wr_0))
  clear h; intro hb h; conv => whnf
  have hl := loop21_1 hS _ _ res _ _ _ h rfl; simp only [head21_1] at hl
  exact lrA0 hl [(0, 0), (1, 1)] rfl
theorem ok21 (hS : SumsOK Try.prog (aget (sums21))) : SumOK Try.prog 21 (s21 (R23_SameF)) := by
  refine SumOK.of_leads tab_ok (fun ar os r ha hr => ?_) ⟨Try.f21, rfl, by decide, rfl⟩
  replace hr : r21 (R23_SameF) ar (conts os) = some r := hr
  unfold r21 at hr
  generalize hc : conts os = C at hr
  have hq := dSl.elim hr; clear hr; obtain ⟨c0, l1, C, y0, rfl, rfl, e0, hr⟩ := hq; obtain rfl := unT_eq unapi_Backend_eq e0
  have hq := dSl.elim hr; clear hr; obtain ⟨c1, l2, C, y1, rfl, rfl, e1, hr⟩ := hq; obtain rfl := unT_eq unapi_Backend_eq e1
  replace hr := dFin hr; obtain ⟨rfl, rfl, x, h, rfl⟩ := hr
  obtain ⟨os, rfl, ha, hc⟩ := kinds_some ha hc
  obtain ⟨os, rfl, ha, hc⟩ := kinds_some ha hc
  obtain rfl := kinds_nil hc
  exact ⟨_, rfl, leads21 hS _ _ x h⟩
def R23_Same : (List api_Backend) → (List api_Backend) → Option Bool := R23_SameF
theorem lift21 : SumOK Try.prog 21 (s21 R23_Same) := ok21 (SumsOK.of_tab trivial)
def R55_SameF (R23_Same : (List api_Backend) → (List api_Backend) → Option Bool) (a : saved_Record) (b : saved_Record) : Option Bool :=
  let t := (a.Key.A == b.Key.A) && ((a.Key.B == b.Key.B) && true)
  cond (t)
    (
    cond (a.Last == b.Last)
      (
      (R23_Same a.L b.L).bind fun s =>
      some (s))
      (
      some (false)))
    (
    some (false))
def rx51 (x : Bool) : SRes := ⟨.bool x, [], [none, none]⟩
def r51 (g : saved_Record → saved_Record → Option Bool) : Dec := dTr 1 (udsaved_Record 0) fun (y0 : saved_Record) => dTr 1 (udsaved_Record 1) fun (y1 : saved_Record) => dEnd (ofG (g y0 y1) rx51)
theorem r51_c {g : saved_Record → saved_Record → Option Bool} {y0 : saved_Record} {y1 : saved_Record} {x : Bool} (hx : g y0 y1 = some x) : r51 g [.agg ⟨[.int .u64 y0.Key.A, .int .u64 y0.Key.B, .int .i64 y0.Last, .slice (some ⟨0, 0, none⟩) y0.L.length 6]⟩, .agg ⟨[.int .u64 y1.Key.A, .int .u64 y1.Key.B, .int .i64 y1.Last, .slice (some ⟨1, 0, none⟩) y1.L.length 6]⟩] [some (vT capi_Backend y0.L), some (vT capi_Backend y1.L)] = some (rx51 x) := (dTr_eq rfl rfl (udsaved_Record_c 0 _)).trans ((dTr_eq rfl rfl (udsaved_Record_c 1 _)).trans (ofG_eq hx))
def s51 (g : saved_Record → saved_Record → Option Bool) : Summ := ⟨[.tr [⟨none, 3, 0, 0, some 6⟩], .tr [⟨none, 3, 0, 0, some 6⟩]], r51 g⟩
theorem r51_eq {g : saved_Record → saved_Record → Option Bool} {y0 : saved_Record} {y1 : saved_Record} {x : Bool} (hx : g y0 y1 = some x) : (s51 g).run [.agg ⟨[.int .u64 y0.Key.A, .int .u64 y0.Key.B, .int .i64 y0.Last, .slice (some ⟨0, 0, none⟩) y0.L.length 6]⟩, .agg ⟨[.int .u64 y1.Key.A, .int .u64 y1.Key.B, .int .i64 y1.Last, .slice (some ⟨1, 0, none⟩) y1.L.length 6]⟩] [some (vT capi_Backend y0.L), some (vT capi_Backend y1.L)] = some (rx51 x) := r51_c hx
abbrev sums51 (R23_Same : (List api_Backend) → (List api_Backend) → Option Bool) : List (Nat × Summ) := [(21, s21 R23_Same)]
theorem leads51 (R23_Same : (List api_Backend) → (List api_Backend) → Option Bool) (hS : SumsOK Try.prog (aget (sums51 R23_Same))) (a : saved_Record) (b : saved_Record) (res : Bool) (h : R55_SameF R23_Same a b = some res) :
    Leads Try.prog 51 2 ⟨⟨51, 24, [(0, .agg ⟨[.int .u64 a.Key.A, .int .u64 a.Key.B, .int .i64 a.Last, .slice (some ⟨0, 0, none⟩) a.L.length 6]⟩), (1, .agg ⟨[.int .u64 b.Key.A, .int .u64 b.Key.B, .int .i64 b.Last, .slice (some ⟨1, 0, none⟩) b.L.length 6]⟩)], [.code k51_3], [], false, none⟩, [], [(0, .row false (vT capi_Backend a.L)), (1, .row false (vT capi_Backend b.L))], 2⟩ (fun v H _ => Res 2 (rx51 res) v H) := by
  unfold R55_SameF at h
  refine ev_ok tab_ok hS true 3000 ?_
  conv => whnf
  let t : Bool := (a.Key.A == b.Key.A) && ((a.Key.B == b.Key.B) && true)
  refine br.h2 h ?_ ?_ ?_
  · rfl
  · clear h; intro hb h; conv => whnf
    all_goals (cases h)
    all_goals exact Res.of [] rfl nw_0 (by decide) js_0 (wr_n (wr_n wr_0))
  clear h; intro hb h; conv => whnf
  refine br.h2 h ?_ ?_ ?_
  · rfl
  · clear h; intro hb h; conv => whnf
    all_goals (cases h)
    all_goals exact Res.of [] rfl nw_0 (by decide) js_0 (wr_n (wr_n wr_0))
  clear h; intro hb h; conv => whnf
  replace h := obind.elim h; obtain ⟨s, hy, h⟩ := h
  refine sumK.introF [] (sumRun_of (aqs := [.slice (some ⟨0, 0, none⟩) (a.L : List api_Backend).length 6, .slice (some ⟨1, 0, none⟩) (b.L : List api_Backend).length 6]) (ws := [.win 0 0 (a.L.length * 6) false, .win 1 0 (b.L.length * 6) false]) (n := 0) (m := 0) (t' := 4) (ra_cons (by first | rfl | exact ra_allT capi_Backend_len capi_Backend_flat rfl rfl (by first | rfl | omega) (by first | rfl | (simp; done)) | exact ra_slT capi_Backend_len capi_Backend_flat rfl rfl (by first | rfl | omega) (by first | rfl | omega) (by first | omega | (simp at *; omega))) rfl (ra_cons (by first | rfl | exact ra_allT capi_Backend_len capi_Backend_flat rfl rfl (by first | rfl | omega) (by first | rfl | (simp; done)) | exact ra_slT capi_Backend_len capi_Backend_flat rfl rfl (by first | rfl | omega) (by first | rfl | omega) (by first | omega | (simp at *; omega))) rfl ra_nil)) rfl (by rfl) (r21_eq hy) rfl rfl rfl rfl (wb_skip rfl (wb_skip rfl wb_nil)) an_nil rfl) ?_
  conv => whnf
  all_goals (cases h)
  all_goals exact Res.of [] rfl nw_0 (by decide) js_0 (wr_n (wr_n wr_0))
theorem ok51 (R23_Same : (List api_Backend) → (List api_Backend) → Option Bool) (hS : SumsOK Try.prog (aget (sums51 R23_Same))) : SumOK Try.prog 51 (s51 (R55_SameF R23_Same)) := by
  refine SumOK.of_leads tab_ok (fun ar os r ha hr => ?_) ⟨Try.f51, rfl, by decide, rfl⟩
  replace hr : r51 (R55_SameF R23_Same) ar (conts os) = some r := hr
  unfold r51 at hr
  generalize hc : conts os = C at hr
  have hq := dTr.elim hr; clear hr; obtain ⟨v0, l1, c0, C, y0, rfl, rfl, e0, hr⟩ := hq; obtain ⟨rfl, rfl⟩ := udsaved_Record_eq e0; simp only [List.nil_append, List.cons_append] at hc
  have hq := dTr.elim hr; clear hr; obtain ⟨v1, l2, c1, C, y1, rfl, rfl, e1, hr⟩ := hq; obtain ⟨rfl, rfl⟩ := udsaved_Record_eq e1; simp only [List.nil_append, List.cons_append] at hc
  replace hr := dFin hr; obtain ⟨rfl, rfl, x, h, rfl⟩ := hr
  obtain ⟨os, rfl, ha, hc⟩ := kinds_some ha hc
  obtain ⟨os, rfl, ha, hc⟩ := kinds_some ha hc
  obtain rfl := kinds_nil hc
  exact ⟨_, rfl, leads51 R23_Same hS _ _ x h⟩
def R55_Same : saved_Record → saved_Record → Option Bool := R55_SameF R23_Same
theorem lift51 : SumOK Try.prog 51 (s51 R55_Same) := ok51 R23_Same (SumsOK.of_tab ⟨lift21, trivial⟩)
end Go.Vm.Code
namespace Go.Vm.Code
open Go Go.Vm
def scan {α σ ρ : Type} (f : α → σ → Sum σ ρ) (fin : σ → ρ) : List α → σ → ρ
  | [], s => fin s
  | a :: l, s => match f a s with
    | .inl s' => scan f fin l s'
    | .inr r => r
theorem iter_scan {α σ ρ S : Type} (L : List α) (f : α → σ → Sum σ ρ) (fin : σ → ρ) (emb : Nat → σ → S) (step : S → Option (Sum S ρ)) (I : Nat → σ → Prop)
    (h1 : ∀ i s (hi : i < L.length), I i s → (∀ s', f L[i] s = .inl s' → step (emb i s) = some (.inl (emb (i + 1) s')) ∧ I (i + 1) s') ∧ ∀ r, f L[i] s = .inr r → step (emb i s) = some (.inr r))
    (h2 : ∀ s, I L.length s → step (emb L.length s) = some (.inr (fin s))) : ∀ (d i : Nat) s n, i + d = L.length → d < n → I i s → iter step n (emb i s) = some (scan f fin (L.drop i) s)
  | 0, i, s, n, he, hn, hI => by
    obtain ⟨m, rfl⟩ : ∃ m, n = m + 1 := ⟨n - 1, by omega⟩
    have e : i = L.length := by omega
    subst e
    rw [iter, h2 s hI, List.drop_length]; rfl
  | d + 1, i, s, n, he, hn, hI => by
    obtain ⟨m, rfl⟩ : ∃ m, n = m + 1 := ⟨n - 1, by omega⟩
    have hi : i < L.length := by omega
    obtain ⟨g1, g2⟩ := h1 i s hi hI
    rw [iter, List.drop_eq_getElem_cons hi, scan]
    cases hf : f L[i] s with
    | inl s' =>
      obtain ⟨e1, e2⟩ := g1 s' hf
      rw [e1]
      exact iter_scan L f fin emb step I h1 h2 d (i + 1) s' m (by omega) (by omega) e2
    | inr r => rw [g2 r hf]
theorem iter_scan0 {α σ ρ S : Type} (L : List α) (f : α → σ → Sum σ ρ) (fin : σ → ρ) (emb : Nat → σ → S) (step : S → Option (Sum S ρ)) (I : Nat → σ → Prop)
    (h1 : ∀ i s (hi : i < L.length), I i s → (∀ s', f L[i] s = .inl s' → step (emb i s) = some (.inl (emb (i + 1) s')) ∧ I (i + 1) s') ∧ ∀ r, f L[i] s = .inr r → step (emb i s) = some (.inr r))
    (h2 : ∀ s, I L.length s → step (emb L.length s) = some (.inr (fin s))) {s : σ} (hl : L.length < 2 ^ 60) (hI : I 0 s) {x : S} (hx : x = emb 0 s) : iter step FUEL x = some (scan f fin L s) := by
  subst hx
  have := iter_scan L f fin emb step I h1 h2 L.length 0 s FUEL (by omega) (by rw [FUEL_eq]; omega) hI
  rwa [List.drop_zero] at this
def bkOK (b : api_Backend) (last top : Int) : Bool := decide (last < b.ID ∧ b.ID ≤ top ∧ 0 ≤ b.Weight ∧ b.Weight ≤ 1000 ∧ (b.State = 1 ∨ b.State = 3)) && adr b.Addr
def chn (top : Int) : List api_Backend → Int → Bool := scan (fun b last => if bkOK b last top = true then .inl b.ID else .inr false) (fun _ => true)
def rightB (r : saved_Record) : Bool := decide (0 ≤ r.Last ∧ r.Last ≤ 65535 ∧ r.L.length ≤ 64) && chn r.Last r.L 0
theorem chn_cons (top : Int) (b : api_Backend) (l : List api_Backend) (last : Int) : chn top (b :: l) last = (bkOK b last top && chn top l b.ID) := by
  unfold chn
  rw [scan]
  cases bkOK b last top <;> simp
theorem pright_eq (r : saved_Record) : saved_Right r = some (rightB r) := by
  unfold saved_Right saved_RightF rightB
  by_cases h1 : r.Last ≥ 0
  · rw [cond_p h1]
    by_cases h2 : r.Last ≤ 65535
    · rw [cond_p h2]
      by_cases h3 : (r.L.length : Int) ≤ 64
      · rw [cond_p h3, decide_eq_true ⟨h1, h2, by omega⟩, Bool.true_and]
        refine iter_scan0 r.L _ _ (fun i (s : Int) => ((i : Int), s)) _ (fun _ _ => True) ?_ ?_ (by omega) trivial rfl
        · intro i s hi _
          dsimp only
          have key : saved_Right_s1 addr_Right r i s = if bkOK r.L[i] s r.Last = true then some (.inl (((i + 1 : Nat) : Int), (r.L[i]).ID)) else some (.inr false) := by
            unfold saved_Right_s1 bkOK
            rw [cond_p (by omega), oreq_p (by omega), Int.toNat_natCast, List.getElem?_eq_getElem hi, Option.bind_some, decide_eq_true (show (i : Int) ≥ 0 by omega), wI64 (by omega) (by omega), tuRight_eq, show ((i + 1 : Nat) : Int) = (i : Int) + 1 by omega]
            simp only [Bool.not_true, Option.bind_some]
            generalize r.L[i] = b
            by_cases c1 : b.ID ≤ s
            · rw [cond_p c1, cond_p c1, decide_eq_false (by omega)]
              cases b.State == 1 <;> rfl
            rw [cond_n c1, cond_n c1]
            by_cases c2 : b.ID > r.Last
            · rw [cond_p c2, cond_p c2, decide_eq_false (by omega)]
              cases b.State == 1 <;> rfl
            rw [cond_n c2, cond_n c2]
            by_cases c3 : b.Weight < 0
            · rw [cond_p c3, cond_p c3, decide_eq_false (by omega)]
              cases b.State == 1 <;> rfl
            rw [cond_n c3, cond_n c3]
            by_cases c4 : b.Weight > 1000
            · rw [cond_p c4, cond_p c4, decide_eq_false (by omega)]
              cases b.State == 1 <;> rfl
            rw [cond_n c4, cond_n c4]
            by_cases c5 : b.State = 1
            · rw [show (b.State == 1) = true from by simpa using c5, cond_true, decide_eq_true (by omega)]
              cases adr b.Addr <;> rfl
            · rw [show (b.State == 1) = false from by simpa using c5, cond_false]
              by_cases c6 : b.State = 3
              · rw [show (b.State == 3) = true from by simpa using c6, decide_eq_true (by omega)]
                cases adr b.Addr <;> rfl
              · rw [show (b.State == 3) = false from by simpa using c6, decide_eq_false (by omega)]; rfl
          rw [key]
          cases bkOK r.L[i] s r.Last with
          | true => exact ⟨fun s' e => (by cases e; exact ⟨rfl, trivial⟩), fun q e => (by cases e)⟩
          | false => exact ⟨fun s' e => (by cases e), fun q e => (by cases e; rfl)⟩
        · intro s _
          dsimp only
          unfold saved_Right_s1
          rw [cond_n (by omega)]
      · rw [cond_n h3, decide_eq_false (by omega)]; rfl
    · rw [cond_n h2, decide_eq_false (by omega)]; rfl
  · rw [cond_n h1, decide_eq_false (by omega)]; rfl
theorem rright55_eq (r : saved_Record) : R55_Right r = some (rightB r) := by
  unfold R55_Right R55_RightF rightB
  by_cases h1 : r.Last < 0
  · rw [cond_p h1, decide_eq_false (by omega)]; rfl
  rw [cond_n h1]
  by_cases h2 : r.Last > 65535
  · rw [cond_p h2, decide_eq_false (by omega)]; rfl
  rw [cond_n h2]
  by_cases h3 : (r.L.length : Int) > 64
  · rw [cond_p h3, decide_eq_false (by omega)]; rfl
  rw [cond_n h3, decide_eq_true (by omega), Bool.true_and]
  refine iter_scan0 r.L _ _ (fun i (s : Int) => (s, (i : Int))) _ (fun _ _ => True) ?_ ?_ (by omega) trivial rfl
  · intro i s hi _
    dsimp only
    have key : R55_Right_s1 R04_Right r s i = if bkOK r.L[i] s r.Last = true then some (.inl ((r.L[i]).ID, ((i + 1 : Nat) : Int))) else some (.inr false) := by
      unfold R55_Right_s1 bkOK
      rw [cond_p (by omega), oreq_p (by omega), Int.toNat_natCast, List.getElem?_eq_getElem hi, Option.bind_some, wI64 (by omega) (by omega), raRight_eq, show ((i + 1 : Nat) : Int) = (i : Int) + 1 by omega]
      simp only [Option.bind_some]
      generalize r.L[i] = b
      by_cases c1 : b.ID ≤ s
      · rw [cond_p c1, decide_eq_false (by omega)]; rfl
      rw [cond_n c1]
      by_cases c2 : b.ID > r.Last
      · rw [cond_p c2, decide_eq_false (by omega)]; rfl
      rw [cond_n c2]
      by_cases c3 : b.Weight < 0
      · rw [cond_p c3, decide_eq_false (by omega)]; rfl
      rw [cond_n c3]
      by_cases c4 : b.Weight > 1000
      · rw [cond_p c4, decide_eq_false (by omega)]; rfl
      rw [cond_n c4]
      by_cases c5 : b.State = 1
      · rw [show (b.State != 1) = false from by simpa using c5, cond_false, decide_eq_true (by omega)]
        cases adr b.Addr <;> rfl
      · rw [show (b.State != 1) = true from by simpa using c5, cond_true]
        by_cases c6 : b.State = 3
        · rw [show (b.State != 3) = false from by simpa using c6, decide_eq_true (by omega)]
          cases adr b.Addr <;> rfl
        · rw [show (b.State != 3) = true from by simpa using c6, decide_eq_false (by omega)]; rfl
    rw [key]
    cases bkOK r.L[i] s r.Last with
    | true => exact ⟨fun s' e => (by cases e; exact ⟨rfl, trivial⟩), fun q e => (by cases e)⟩
    | false => exact ⟨fun s' e => (by cases e), fun q e => (by cases e; rfl)⟩
  · intro s _
    dsimp only
    unfold R55_Right_s1
    rw [cond_n (by omega)]
def hash12 (s : List UInt8) : Int := hashR tak finQ s.length (newV ⟨1, 2⟩).s s
theorem hash12_rng (s : List UInt8) : 0 ≤ hash12 s ∧ hash12 s < 2 ^ 64 := hashR_rng tak finQ finQ_rng _ _ _ _ (Nat.le_refl _)
def sealS (s : List UInt8) : List UInt8 := be (hash12 s).toNat 8
theorem sealS_len (s : List UInt8) : (sealS s).length = 8 := by simp [sealS]
theorem pseal_eq {s : List UInt8} (h : s.length < 2 ^ 40) : saved_seal s = some (sealS s) := by
  unfold saved_seal saved_sealF
  rw [Hash_R (by omega), Option.bind_some]
  show (octet_Put (hash12 s) 8).bind _ = _
  rw [octet_Put_eq (hash12_rng s).1, Option.bind_some]
  unfold putS; rw [if_pos (by decide)]; rfl
theorem rseal_eq {s : List UInt8} (h : s.length < 2 ^ 40) : R55_Seal s = some (sealS s) := by
  unfold R55_Seal R55_SealF
  rw [R12_Hash_eq (by omega), Option.bind_some]
  show (R02_Put (hash12 s) 8).bind _ = _
  rw [R02_Put_eq (hash12_rng s).1 (hash12_rng s).2, Option.bind_some]
  unfold putS; rw [if_pos (by decide)]; rfl
def encB (b : api_Backend) : List UInt8 := be b.ID.toNat 2 ++ be b.Weight.toNat 2 ++ be b.State.toNat 1 ++ be (adB b.Addr).length 1 ++ adB b.Addr
def encH (r : saved_Record) : List UInt8 := [67, 76, 75, 49] ++ be r.Key.A.toNat 8 ++ be r.Key.B.toNat 8 ++ be r.Last.toNat 2 ++ be r.L.length 1
def body (r : saved_Record) : List UInt8 := encH r ++ r.L.flatMap encB
def putR (r : saved_Record) : List UInt8 × Int := if rightB r = true then (body r ++ sealS (body r), 0) else ([], 1)
def recOK (r : saved_Record) : Prop := (0 ≤ r.Key.A ∧ r.Key.A < 2 ^ 64) ∧ (0 ≤ r.Key.B ∧ r.Key.B < 2 ^ 64) ∧ ∀ b ∈ r.L, inU b.Addr
theorem encB_len (b : api_Backend) : (encB b).length ≤ 22 := by
  have := adB_len b.Addr
  simp [encB]; omega
theorem scan_flat {ρ : Type} (fin : List UInt8 → ρ) : ∀ (L : List api_Backend) (s : List UInt8), scan (fun b s => (.inl (s ++ encB b) : Sum (List UInt8) ρ)) fin L s = fin (s ++ L.flatMap encB)
  | [], s => by simp [scan]
  | b :: L, s => by rw [scan]; simp only []; rw [scan_flat fin L]; simp
theorem chn_all {top : Int} : ∀ {l : List api_Backend} {last : Int}, chn top l last = true → ∀ b ∈ l, last < b.ID ∧ b.ID ≤ top ∧ 0 ≤ b.Weight ∧ b.Weight ≤ 1000 ∧ (b.State = 1 ∨ b.State = 3) ∧ adr b.Addr = true
  | [], last, h, b, hb => by cases hb
  | a :: l, last, h, b, hb => by
    rw [chn_cons, Bool.and_eq_true] at h
    have h1 := h.1
    unfold bkOK at h1
    rw [Bool.and_eq_true, decide_eq_true_iff] at h1
    rcases List.mem_cons.1 hb with rfl | hb
    · obtain ⟨⟨c1, c2, c3, c4, c5⟩, c6⟩ := h1
      exact ⟨c1, c2, c3, c4, c5, c6⟩
    · obtain ⟨c1, c2, c3, c4, c5, c6⟩ := chn_all h.2 b hb
      exact ⟨by omega, c2, c3, c4, c5, c6⟩
theorem be42 {x y : Int} (hx : 0 ≤ x ∧ x ≤ 65535) (hy : 0 ≤ y ∧ y ≤ 65535) : putS (iorI .u64 (wI .u64 ((wI .u64 x) * 2 ^ 16)) (wI .u64 y)) 4 = be x.toNat 2 ++ be y.toNat 2 := by
  rw [wU64 (n := x) (by omega) (by omega), wU64 (n := y) (by omega) (by omega), wU64 (n := x * 2 ^ 16) (by omega) (by omega), iorU64_low 16 (by omega) (by omega) (by omega) (by omega) (by omega)]
  unfold putS
  rw [if_pos (by decide)]
  obtain ⟨a, rfl⟩ := Int.eq_ofNat_of_zero_le hx.1
  obtain ⟨b, rfl⟩ := Int.eq_ofNat_of_zero_le hy.1
  show be ((a : Int) * 2 ^ 16 + (b : Int)).toNat (2 + 2) = _
  have e1 : ((a : Int) * 2 ^ 16 + (b : Int)).toNat = a * 65536 + b := by omega
  rw [e1, be_split, show (a * 65536 + b) / 256 ^ 2 = a by omega, ← be_mod (a * 65536 + b) 2, show (a * 65536 + b) % 256 ^ 2 = b by omega]
  simp
theorem be21 {x y : Int} (hx : 0 ≤ x ∧ x ≤ 255) (hy : 0 ≤ y ∧ y ≤ 255) : putS (iorI .u64 (wI .u64 ((wI .u64 x) * 2 ^ 8)) (wI .u64 y)) 2 = be x.toNat 1 ++ be y.toNat 1 := by
  rw [wU64 (n := x) (by omega) (by omega), wU64 (n := y) (by omega) (by omega), wU64 (n := x * 2 ^ 8) (by omega) (by omega), iorU64_low 8 (by omega) (by omega) (by omega) (by omega) (by omega)]
  unfold putS
  rw [if_pos (by decide)]
  obtain ⟨a, rfl⟩ := Int.eq_ofNat_of_zero_le hx.1
  obtain ⟨b, rfl⟩ := Int.eq_ofNat_of_zero_le hy.1
  show be ((a : Int) * 2 ^ 8 + (b : Int)).toNat (1 + 1) = _
  have e1 : ((a : Int) * 2 ^ 8 + (b : Int)).toNat = a * 256 + b := by omega
  rw [e1, be_split, show (a * 256 + b) / 256 ^ 1 = a by omega, ← be_mod (a * 256 + b) 1, show (a * 256 + b) % 256 ^ 1 = b by omega]
  simp
theorem pput_eq {r : saved_Record} (hr : recOK r) : saved_Put r = some (putR r) := by
  unfold saved_Put saved_PutF putR
  rw [pright_eq, Option.bind_some]
  cases hR : rightB r with
  | false => rfl
  | true =>
  have h := hR
  unfold rightB at h
  rw [Bool.and_eq_true, decide_eq_true_iff] at h
  obtain ⟨⟨l0, l1, l2⟩, hc⟩ := h
  have hall := chn_all hc
  obtain ⟨⟨a0, a1⟩, ⟨b0, b1⟩, hadr⟩ := hr
  simp only [Bool.not_true, cond_false]
  rw [octet_Put_eq a0, Option.bind_some, octet_Put_eq b0, Option.bind_some, wU64 (n := r.Last) (by omega) (by omega), octet_Put_eq l0, Option.bind_some, wU64 (n := (r.L.length : Int)) (by omega) (by omega), octet_Put_eq (by omega), Option.bind_some]
  simp only [putS, show (1 : Int) ≤ 8 ∧ (8 : Int) ≤ 8 from by decide, show (1 : Int) ≤ 2 ∧ (2 : Int) ≤ 8 from by decide, show (1 : Int) ≤ 1 ∧ (1 : Int) ≤ 8 from by decide, and_self, ↓reduceIte, Int.toNat_natCast, show (8 : Int).toNat = 8 from rfl, show (2 : Int).toNat = 2 from rfl, show (1 : Int).toNat = 1 from rfl]
  rw [oreq_p (by simp), oreq_p (by simp), oreq_p (by simp), oreq_p (by simp)]
  have e0 := iter_scan0 r.L (fun b s => (.inl (s ++ encB b) : Sum (List UInt8) (List UInt8 × Int))) (fun s => (s ++ sealS s, (0 : Int))) (fun i (s : List UInt8) => ((i : Int), s)) (fun st => saved_Put_s1 addr_Put octet_Put saved_seal r st.1 st.2) (fun i s => s.length ≤ 100 + 22 * i) (s := encH r) ?_ ?_ (by omega) (by simp [encH]) rfl
  · rw [scan_flat] at e0
    exact e0
  · intro i s hi hs
    dsimp only
    refine ⟨fun s' e => ?_, fun q e => (by cases e)⟩
    cases e
    obtain ⟨c1, c2, c3, c4, c5, c6⟩ := hall _ (List.getElem_mem hi)
    have hu := hadr _ (List.getElem_mem hi)
    have hlb := encB_len r.L[i]
    refine ⟨?_, by simp only [List.length_append]; omega⟩
    unfold saved_Put_s1
    rw [cond_p (by omega), oreq_p (by omega), Int.toNat_natCast, List.getElem?_eq_getElem hi, Option.bind_some]
    generalize r.L[i] = b at *
    have hal := adB_len b.Addr
    rw [tuPut_eq hu c6, Option.bind_some]
    simp only []
    rw [octet_Put_eq (by rw [wU64 (n := b.ID) (by omega) (by omega), wU64 (n := b.Weight) (by omega) (by omega), wU64 (n := b.ID * 2 ^ 16) (by omega) (by omega), iorU64_low 16 (by omega) (by omega) (by omega) (by omega) (by omega)]; omega), be42 (by omega) (by omega), Option.bind_some]
    rw [octet_Put_eq (by rw [wU64 (n := b.State) (by omega) (by omega), wU64 (n := ((adB b.Addr).length : Int)) (by omega) (by omega), wU64 (n := b.State * 2 ^ 8) (by omega) (by omega), iorU64_low 8 (by omega) (by omega) (by omega) (by omega) (by omega)]; omega), be21 (by omega) (by omega), Option.bind_some]
    rw [oreq_p (by simp; omega), oreq_p (by simp; omega), oreq_p (by simp; omega), wI64 (by omega) (by omega), Int.toNat_natCast]
    congr 3
    simp [encB]
  · intro s hs
    dsimp only
    unfold saved_Put_s1
    rw [cond_n (by omega), pseal_eq (by omega), Option.bind_some, oreq_p (by rw [sealS_len]; omega)]
theorem rnum_eq {n : Int} {k : Int} (hn : 0 ≤ n ∧ n < 2 ^ 64) : R55_num n k = some (putS n k) := by
  unfold R55_num R55_numF
  rw [wU64 (by omega) (by omega), R02_Put_eq hn.1 (by omega), Option.bind_some]
theorem rput55_eq {r : saved_Record} (hr : recOK r) : R55_Put r = some (putR r) := by
  unfold R55_Put R55_PutF putR
  rw [rright55_eq, Option.bind_some]
  cases hR : rightB r with
  | false => rfl
  | true =>
  have h := hR
  unfold rightB at h
  rw [Bool.and_eq_true, decide_eq_true_iff] at h
  obtain ⟨⟨l0, l1, l2⟩, hc⟩ := h
  have hall := chn_all hc
  obtain ⟨⟨a0, a1⟩, ⟨b0, b1⟩, hadr⟩ := hr
  simp only [Bool.not_true, cond_false]
  rw [R02_Put_eq a0 a1, Option.bind_some, R02_Put_eq b0 b1, Option.bind_some, rnum_eq ⟨by omega, by omega⟩, Option.bind_some, rnum_eq ⟨by omega, by omega⟩, Option.bind_some]
  simp only [putS, show (1 : Int) ≤ 8 ∧ (8 : Int) ≤ 8 from by decide, show (1 : Int) ≤ 2 ∧ (2 : Int) ≤ 8 from by decide, show (1 : Int) ≤ 1 ∧ (1 : Int) ≤ 8 from by decide, and_self, ↓reduceIte, Int.toNat_natCast, show (8 : Int).toNat = 8 from rfl, show (2 : Int).toNat = 2 from rfl, show (1 : Int).toNat = 1 from rfl]
  rw [oreq_p (by simp), oreq_p (by simp), oreq_p (by simp), oreq_p (by simp)]
  have e0 := iter_scan0 r.L (fun b s => (.inl (s ++ encB b) : Sum (List UInt8) (List UInt8 × Int))) (fun s => (s ++ sealS s, (0 : Int))) (fun i (s : List UInt8) => (s, (i : Int))) (fun st => R55_Put_s1 R04_Put R55_Seal R55_num r st.1 st.2) (fun i s => s.length ≤ 100 + 22 * i) (s := encH r) ?_ ?_ (by omega) (by simp [encH]) rfl
  · rw [scan_flat] at e0
    exact e0
  · intro i s hi hs
    dsimp only
    refine ⟨fun s' e => ?_, fun q e => (by cases e)⟩
    cases e
    obtain ⟨c1, c2, c3, c4, c5, c6⟩ := hall _ (List.getElem_mem hi)
    have hu := hadr _ (List.getElem_mem hi)
    have hlb := encB_len r.L[i]
    refine ⟨?_, by simp only [List.length_append]; omega⟩
    unfold R55_Put_s1
    rw [cond_p (by omega), oreq_p (by omega), Int.toNat_natCast, List.getElem?_eq_getElem hi, Option.bind_some]
    generalize r.L[i] = b at *
    have hal := adB_len b.Addr
    rw [raPut_eq hu c6, Option.bind_some]
    rw [oreq_p (by omega), rnum_eq ⟨by omega, by omega⟩, Option.bind_some, oreq_p (by simp [putS]; omega), oreq_p (by omega), rnum_eq ⟨by omega, by omega⟩, Option.bind_some, oreq_p (by simp [putS]; omega), oreq_p (by omega), rnum_eq ⟨by omega, by omega⟩, Option.bind_some, oreq_p (by simp [putS]; omega), rnum_eq ⟨by omega, by omega⟩, Option.bind_some, oreq_p (by simp [putS]; omega), oreq_p (by simp [putS]; omega), wI64 (by omega) (by omega)]
    congr 3
    simp [encB, putS]
  · intro s hs
    dsimp only
    unfold R55_Put_s1
    rw [cond_n (by omega), rseal_eq (by omega), Option.bind_some, oreq_p (by rw [sealS_len]; omega)]
end Go.Vm.Code
namespace Go.Vm.Code
open Go Go.Vm Go.Proofs
set_option maxRecDepth 100000
set_option maxHeartbeats 4000000
set_option linter.unusedVariables false
def addr_GetF (octet_Get : (List UInt8) → Int → Int → Option (Int × Bool)) (s : List UInt8) : Option (api_Addr × Bool) :=
  cond ((s.length : Int) == 4)
    (
    (octet_Get s 0 4).bind fun xg =>
    some ((api_Addr.mk false 0 xg.1, true)))
    (
    cond ((s.length : Int) == 16)
      (
      (octet_Get s 0 8).bind fun xg1 =>
      (octet_Get s 8 8).bind fun xg2 =>
      some ((api_Addr.mk true xg1.1 xg2.1, true)))
      (
      some ((api_Addr.mk false 0 0, false))))
def rx138 (x : api_Addr × Bool) : SRes := ⟨.tuple ⟨[.agg ⟨[.bool x.1.V6, .int .u64 x.1.Hi, .int .u64 x.1.Lo]⟩, .bool x.2]⟩, [], []⟩
def r138 (g : (List UInt8) → Option (api_Addr × Bool)) : Dec := dV asS fun (y0 : List UInt8) => dEnd (ofG (g y0) rx138)
theorem r138_c {g : (List UInt8) → Option (api_Addr × Bool)} {y0 : List UInt8} {x : api_Addr × Bool} (hx : g y0 = some x) : r138 g [.string ⟨⟨y0⟩⟩] [] = some (rx138 x) := (dV_eq (asS_c)).trans (ofG_eq hx)
def s138 (g : (List UInt8) → Option (api_Addr × Bool)) : Summ := ⟨[.v], r138 g⟩
theorem r138_eq {g : (List UInt8) → Option (api_Addr × Bool)} {y0 : List UInt8} {x : api_Addr × Bool} (hx : g y0 = some x) : (s138 g).run [.string ⟨⟨y0⟩⟩] [] = some (rx138 x) := r138_c hx
abbrev sums138 (octet_Get : (List UInt8) → Int → Int → Option (Int × Bool)) : List (Nat × Summ) := [(99, s99 octet_Get)]
theorem leads138 (octet_Get : (List UInt8) → Int → Int → Option (Int × Bool)) (hS : SumsOK Try.prog (aget (sums138 octet_Get))) (s : List UInt8) (res : api_Addr × Bool) (h : addr_GetF octet_Get s = some res) :
    Leads Try.prog 138 0 ⟨⟨138, 35, [(0, .string ⟨⟨s⟩⟩)], [.code k138_25], [], false, none⟩, [], [], 0⟩ (fun v H _ => Res 0 (rx138 res) v H) := by
  unfold addr_GetF at h
  refine ev_ok tab_ok hS true 3000 ?_
  conv => whnf
  refine br.h h ?_ ?_ ?_
  · rfl
  · clear h; intro hb h; conv => whnf
    replace h := obind.elim h; obtain ⟨xg, hy, h⟩ := h
    refine sumK.q rfl rfl (r99_eq hy) rfl rfl rfl ?_
    conv => whnf
    all_goals (cases h; exact Res.z rfl rfl rfl)
  clear h; intro hb h; conv => whnf
  refine br.h2 h ?_ ?_ ?_
  · rfl
  · clear h; intro hb h; conv => whnf
    all_goals (cases h; exact Res.z rfl rfl rfl)
  clear h; intro hb h; conv => whnf
  replace h := obind.elim h; obtain ⟨xg1, hy, h⟩ := h
  refine sumK.q rfl rfl (r99_eq hy) rfl rfl rfl ?_
  conv => whnf
  replace h := obind.elim h; obtain ⟨xg2, hy, h⟩ := h
  refine sumK.q rfl rfl (r99_eq hy) rfl rfl rfl ?_
  conv => whnf
  all_goals (cases h; exact Res.z rfl rfl rfl)
theorem ok138 (octet_Get : (List UInt8) → Int → Int → Option (Int × Bool)) (hS : SumsOK Try.prog (aget (sums138 octet_Get))) : SumOK Try.prog 138 (s138 (addr_GetF octet_Get)) := by
  refine SumOK.of_leads tab_ok (fun ar os r ha hr => ?_) ⟨Try.f138, rfl, by decide, rfl⟩
  replace hr : r138 (addr_GetF octet_Get) ar (conts os) = some r := hr
  unfold r138 at hr
  generalize hc : conts os = C at hr
  replace hr := dV.elim hr; obtain ⟨v0, l1, y0, rfl, e0, hr⟩ := hr; obtain rfl := asS_eq _ _ e0
  replace hr := dFin hr; obtain ⟨rfl, rfl, x, h, rfl⟩ := hr
  obtain rfl := kinds_nil hc
  exact ⟨_, rfl, leads138 octet_Get hS _ x h⟩
def addr_Get : (List UInt8) → Option (api_Addr × Bool) := addr_GetF octet_Get
theorem lift138 : SumOK Try.prog 138 (s138 addr_Get) := ok138 octet_Get (SumsOK.of_tab ⟨lift99, trivial⟩)
def saved_backendF (addr_Get : (List UInt8) → Option (api_Addr × Bool)) (octet_Reader_Num : octet_Reader → Int → Option (Int × octet_Reader)) (octet_Reader_Text : octet_Reader → Int → Option ((List UInt8) × octet_Reader)) (ra0 : octet_Reader) : Option (api_Backend × Bool × octet_Reader) :=
  (octet_Reader_Num ra0 2).bind fun n =>
  (octet_Reader_Num n.2 2).bind fun n1 =>
  (octet_Reader_Num n1.2 1).bind fun n2 =>
  (octet_Reader_Num n2.2 1).bind fun n3 =>
  (octet_Reader_Text n3.2 n3.1).bind fun t =>
  (addr_Get t.1).bind fun xg =>
  some ((api_Backend.mk n.1 n1.1 n2.1 xg.1, xg.2, t.2))
def rx101 (x : api_Backend × Bool × octet_Reader) : SRes := ⟨.tuple ⟨[.agg ⟨[.int .i64 x.1.ID, .int .i64 x.1.Weight, .int .i64 x.1.State, .bool x.1.Addr.V6, .int .u64 x.1.Addr.Hi, .int .u64 x.1.Addr.Lo]⟩, .bool x.2.1]⟩, [], [some [.string ⟨⟨x.2.2.s⟩⟩, .bool x.2.2.made, .bool x.2.2.bad]]⟩
def r101 (g : octet_Reader → Option (api_Backend × Bool × octet_Reader)) : Dec := dPt 0 unoctet_Reader fun (y0 : octet_Reader) => dEnd (ofG (g y0) rx101)
theorem r101_c {g : octet_Reader → Option (api_Backend × Bool × octet_Reader)} {y0 : octet_Reader} {x : api_Backend × Bool × octet_Reader} (hx : g y0 = some x) : r101 g [.pointer (some ⟨0, 0, none⟩)] [some [.string ⟨⟨y0.s⟩⟩, .bool y0.made, .bool y0.bad]] = some (rx101 x) := (dPt_eq (unoctet_Reader_c _)).trans (ofG_eq hx)
def s101 (g : octet_Reader → Option (api_Backend × Bool × octet_Reader)) : Summ := ⟨[.pt 3], r101 g⟩
theorem r101_eq {g : octet_Reader → Option (api_Backend × Bool × octet_Reader)} {y0 : octet_Reader} {x : api_Backend × Bool × octet_Reader} (hx : g y0 = some x) : (s101 g).run [.pointer (some ⟨0, 0, none⟩)] [some [.string ⟨⟨y0.s⟩⟩, .bool y0.made, .bool y0.bad]] = some (rx101 x) := r101_c hx
abbrev sums101 (addr_Get : (List UInt8) → Option (api_Addr × Bool)) (octet_Reader_Num : octet_Reader → Int → Option (Int × octet_Reader)) (octet_Reader_Text : octet_Reader → Int → Option ((List UInt8) × octet_Reader)) : List (Nat × Summ) := [(138, s138 addr_Get), (100, s100 octet_Reader_Num), (97, s97 octet_Reader_Text)]
theorem leads101 (addr_Get : (List UInt8) → Option (api_Addr × Bool)) (octet_Reader_Num : octet_Reader → Int → Option (Int × octet_Reader)) (octet_Reader_Text : octet_Reader → Int → Option ((List UInt8) × octet_Reader)) (hS : SumsOK Try.prog (aget (sums101 addr_Get octet_Reader_Num octet_Reader_Text))) (ra0 : octet_Reader) (res : api_Backend × Bool × octet_Reader) (h : saved_backendF addr_Get octet_Reader_Num octet_Reader_Text ra0 = some res) :
    Leads Try.prog 101 1 ⟨⟨101, 26, [(0, .pointer (some ⟨0, 0, none⟩))], [.code k101_9], [], false, none⟩, [], [(0, .cells [.string ⟨⟨ra0.s⟩⟩, .bool ra0.made, .bool ra0.bad])], 1⟩ (fun v H _ => Res 1 (rx101 res) v H) := by
  unfold saved_backendF at h
  refine ev_ok tab_ok hS true 3000 ?_
  conv => whnf
  replace h := obind.elim h; obtain ⟨n, hy, h⟩ := h
  refine sumK.introF [0] (sumRun_of (aqs := [.pointer (some ⟨0, 0, none⟩), .int .i64 2]) (ws := [.win 0 0 3 true]) (n := 0) (m := 0) (t' := 2) (ra_cons rfl rfl (ra_cons rfl rfl ra_nil)) rfl (by rfl) (r100_eq hy) rfl rfl rfl rfl (wb_win rfl rfl rfl ⟨rfl, Nat.le_of_ble_eq_true rfl⟩ rfl rfl wb_nil) an_nil rfl) ?_
  conv => whnf
  replace h := obind.elim h; obtain ⟨n1, hy, h⟩ := h
  refine sumK.introF [0] (sumRun_of (aqs := [.pointer (some ⟨0, 0, none⟩), .int .i64 2]) (ws := [.win 0 0 3 true]) (n := 0) (m := 0) (t' := 2) (ra_cons rfl rfl (ra_cons rfl rfl ra_nil)) rfl (by rfl) (r100_eq hy) rfl rfl rfl rfl (wb_win rfl rfl rfl ⟨rfl, Nat.le_of_ble_eq_true rfl⟩ rfl rfl wb_nil) an_nil rfl) ?_
  conv => whnf
  replace h := obind.elim h; obtain ⟨n2, hy, h⟩ := h
  refine sumK.introF [0] (sumRun_of (aqs := [.pointer (some ⟨0, 0, none⟩), .int .i64 1]) (ws := [.win 0 0 3 true]) (n := 0) (m := 0) (t' := 2) (ra_cons rfl rfl (ra_cons rfl rfl ra_nil)) rfl (by rfl) (r100_eq hy) rfl rfl rfl rfl (wb_win rfl rfl rfl ⟨rfl, Nat.le_of_ble_eq_true rfl⟩ rfl rfl wb_nil) an_nil rfl) ?_
  conv => whnf
  replace h := obind.elim h; obtain ⟨n3, hy, h⟩ := h
  refine sumK.introF [0] (sumRun_of (aqs := [.pointer (some ⟨0, 0, none⟩), .int .i64 1]) (ws := [.win 0 0 3 true]) (n := 0) (m := 0) (t' := 3) (ra_cons rfl rfl (ra_cons rfl rfl ra_nil)) rfl (by rfl) (r100_eq hy) rfl rfl rfl rfl (wb_win rfl rfl rfl ⟨rfl, Nat.le_of_ble_eq_true rfl⟩ rfl rfl wb_nil) an_nil rfl) ?_
  conv => whnf
  replace h := obind.elim h; obtain ⟨t, hy, h⟩ := h
  refine sumK.introF [0] (sumRun_of (aqs := [.pointer (some ⟨0, 0, none⟩), .int .i64 n3.1]) (ws := [.win 0 0 3 true]) (n := 0) (m := 0) (t' := 3) (ra_cons rfl rfl (ra_cons rfl rfl ra_nil)) rfl (by rfl) (r97_eq hy) rfl rfl rfl rfl (wb_win rfl rfl rfl ⟨rfl, Nat.le_of_ble_eq_true rfl⟩ rfl rfl wb_nil) an_nil rfl) ?_
  conv => whnf
  replace h := obind.elim h; obtain ⟨xg, hy, h⟩ := h
  refine sumK.q rfl rfl (r138_eq hy) rfl rfl rfl ?_
  conv => whnf
  all_goals (cases h)
  all_goals exact Res.of [] rfl nw_0 (by decide) js_0 (wr_s (rfl) (hs_cells rfl) wr_0)
theorem ok101 (addr_Get : (List UInt8) → Option (api_Addr × Bool)) (octet_Reader_Num : octet_Reader → Int → Option (Int × octet_Reader)) (octet_Reader_Text : octet_Reader → Int → Option ((List UInt8) × octet_Reader)) (hS : SumsOK Try.prog (aget (sums101 addr_Get octet_Reader_Num octet_Reader_Text))) : SumOK Try.prog 101 (s101 (saved_backendF addr_Get octet_Reader_Num octet_Reader_Text)) := by
  refine SumOK.of_leads tab_ok (fun ar os r ha hr => ?_) ⟨Try.f101, rfl, by decide, rfl⟩
  replace hr : r101 (saved_backendF addr_Get octet_Reader_Num octet_Reader_Text) ar (conts os) = some r := hr
  unfold r101 at hr
  generalize hc : conts os = C at hr
  have hq := dPt.elim hr; clear hr; obtain ⟨c0, l1, C, y0, rfl, rfl, e0, hr⟩ := hq; obtain rfl := unoctet_Reader_eq _ _ e0
  replace hr := dFin hr; obtain ⟨rfl, rfl, x, h, rfl⟩ := hr
  obtain ⟨os, rfl, ha, hc⟩ := kinds_some ha hc
  obtain rfl := kinds_nil hc
  exact ⟨_, rfl, leads101 addr_Get octet_Reader_Num octet_Reader_Text hS _ x h⟩
def saved_backend : octet_Reader → Option (api_Backend × Bool × octet_Reader) := saved_backendF addr_Get octet_Reader_Num octet_Reader_Text
theorem lift101 : SumOK Try.prog 101 (s101 saved_backend) := ok101 addr_Get octet_Reader_Num octet_Reader_Text (SumsOK.of_tab ⟨lift138, lift100, lift97, trivial⟩)
def octet_Reader_RestF (octet_Reader_Bad : octet_Reader → Option (Bool × octet_Reader)) (octet_Reader_Text : octet_Reader → Int → Option ((List UInt8) × octet_Reader)) (ra0 : octet_Reader) : Option ((List UInt8) × octet_Reader) :=
  (octet_Reader_Bad ra0).bind fun b =>
  cond (b.1)
    (
    some (([], b.2)))
    (
    (octet_Reader_Text b.2 (b.2.s.length : Int)).bind fun t =>
    some ((t.1, t.2)))
def rx103 (x : (List UInt8) × octet_Reader) : SRes := ⟨.string ⟨⟨x.1⟩⟩, [], [some [.string ⟨⟨x.2.s⟩⟩, .bool x.2.made, .bool x.2.bad]]⟩
def r103 (g : octet_Reader → Option ((List UInt8) × octet_Reader)) : Dec := dPt 0 unoctet_Reader fun (y0 : octet_Reader) => dEnd (ofG (g y0) rx103)
theorem r103_c {g : octet_Reader → Option ((List UInt8) × octet_Reader)} {y0 : octet_Reader} {x : (List UInt8) × octet_Reader} (hx : g y0 = some x) : r103 g [.pointer (some ⟨0, 0, none⟩)] [some [.string ⟨⟨y0.s⟩⟩, .bool y0.made, .bool y0.bad]] = some (rx103 x) := (dPt_eq (unoctet_Reader_c _)).trans (ofG_eq hx)
def s103 (g : octet_Reader → Option ((List UInt8) × octet_Reader)) : Summ := ⟨[.pt 3], r103 g⟩
theorem r103_eq {g : octet_Reader → Option ((List UInt8) × octet_Reader)} {y0 : octet_Reader} {x : (List UInt8) × octet_Reader} (hx : g y0 = some x) : (s103 g).run [.pointer (some ⟨0, 0, none⟩)] [some [.string ⟨⟨y0.s⟩⟩, .bool y0.made, .bool y0.bad]] = some (rx103 x) := r103_c hx
abbrev sums103 (octet_Reader_Bad : octet_Reader → Option (Bool × octet_Reader)) (octet_Reader_Text : octet_Reader → Int → Option ((List UInt8) × octet_Reader)) : List (Nat × Summ) := [(102, s102 octet_Reader_Bad), (97, s97 octet_Reader_Text)]
theorem leads103 (octet_Reader_Bad : octet_Reader → Option (Bool × octet_Reader)) (octet_Reader_Text : octet_Reader → Int → Option ((List UInt8) × octet_Reader)) (hS : SumsOK Try.prog (aget (sums103 octet_Reader_Bad octet_Reader_Text))) (ra0 : octet_Reader) (res : (List UInt8) × octet_Reader) (h : octet_Reader_RestF octet_Reader_Bad octet_Reader_Text ra0 = some res) :
    Leads Try.prog 103 1 ⟨⟨103, 12, [(0, .pointer (some ⟨0, 0, none⟩))], [.code k103_9], [], false, none⟩, [], [(0, .cells [.string ⟨⟨ra0.s⟩⟩, .bool ra0.made, .bool ra0.bad])], 1⟩ (fun v H _ => Res 1 (rx103 res) v H) := by
  unfold octet_Reader_RestF at h
  refine ev_ok tab_ok hS true 3000 ?_
  conv => whnf
  replace h := obind.elim h; obtain ⟨b, hy, h⟩ := h
  refine sumK.introF [0] (sumRun_of (aqs := [.pointer (some ⟨0, 0, none⟩)]) (ws := [.win 0 0 3 true]) (n := 0) (m := 0) (t' := 1) (ra_cons rfl rfl ra_nil) rfl (by rfl) (r102_eq hy) rfl rfl rfl rfl (wb_win rfl rfl rfl ⟨rfl, Nat.le_of_ble_eq_true rfl⟩ rfl rfl wb_nil) an_nil rfl) ?_
  conv => whnf
  refine br.h h ?_ ?_ ?_
  · rfl
  · clear h; intro hb h; conv => whnf
    all_goals (cases h)
    all_goals exact Res.of [] rfl nw_0 (by decide) js_0 (wr_s (rfl) (hs_cells rfl) wr_0)
  clear h; intro hb h; conv => whnf
  replace h := obind.elim h; obtain ⟨t, hy, h⟩ := h
  refine sumK.introF [0] (sumRun_of (aqs := [.pointer (some ⟨0, 0, none⟩), .int .i64 (b.2.s.length : Int)]) (ws := [.win 0 0 3 true]) (n := 0) (m := 0) (t' := 1) (ra_cons rfl rfl (ra_cons rfl rfl ra_nil)) rfl (by rfl) (r97_eq hy) rfl rfl rfl rfl (wb_win rfl rfl rfl ⟨rfl, Nat.le_of_ble_eq_true rfl⟩ rfl rfl wb_nil) an_nil rfl) ?_
  conv => whnf
  all_goals (cases h)
  all_goals exact Res.of [] rfl nw_0 (by decide) js_0 (wr_s (rfl) (hs_cells rfl) wr_0)
theorem ok103 (octet_Reader_Bad : octet_Reader → Option (Bool × octet_Reader)) (octet_Reader_Text : octet_Reader → Int → Option ((List UInt8) × octet_Reader)) (hS : SumsOK Try.prog (aget (sums103 octet_Reader_Bad octet_Reader_Text))) : SumOK Try.prog 103 (s103 (octet_Reader_RestF octet_Reader_Bad octet_Reader_Text)) := by
  refine SumOK.of_leads tab_ok (fun ar os r ha hr => ?_) ⟨Try.f103, rfl, by decide, rfl⟩
  replace hr : r103 (octet_Reader_RestF octet_Reader_Bad octet_Reader_Text) ar (conts os) = some r := hr
  unfold r103 at hr
  generalize hc : conts os = C at hr
  have hq := dPt.elim hr; clear hr; obtain ⟨c0, l1, C, y0, rfl, rfl, e0, hr⟩ := hq; obtain rfl := unoctet_Reader_eq _ _ e0
  replace hr := dFin hr; obtain ⟨rfl, rfl, x, h, rfl⟩ := hr
  obtain ⟨os, rfl, ha, hc⟩ := kinds_some ha hc
  obtain rfl := kinds_nil hc
  exact ⟨_, rfl, leads103 octet_Reader_Bad octet_Reader_Text hS _ x h⟩
def octet_Reader_Rest : octet_Reader → Option ((List UInt8) × octet_Reader) := octet_Reader_RestF octet_Reader_Bad octet_Reader_Text
theorem lift103 : SumOK Try.prog 103 (s103 octet_Reader_Rest) := ok103 octet_Reader_Bad octet_Reader_Text (SumsOK.of_tab ⟨lift102, lift97, trivial⟩)
def saved_Get_s1 (octet_Reader_Bad : octet_Reader → Option (Bool × octet_Reader)) (octet_Reader_Rest : octet_Reader → Option ((List UInt8) × octet_Reader)) (saved_Right : saved_Record → Option Bool) (saved_backend : octet_Reader → Option (api_Backend × Bool × octet_Reader)) (xg : Int × Bool) (xg1 : Int × Bool) (n1 : Int × octet_Reader) (n2 : Int × octet_Reader) (good : Bool) (t60 : Int) (xr : List UInt8) (xr1 : Bool) (xr2 : Bool) (c : List api_Backend) : Option (Sum (Bool × Int × (List UInt8) × Bool × Bool × (List api_Backend)) (saved_Record × Int)) :=
  cond (decide (t60 < n2.1))
    (
    (saved_backend (octet_Reader.mk xr xr1 xr2)).bind fun b =>
    cond (good)
      (
      oreq (decide ((c.length + 1) * 48 ≤ 2 ^ 47)) <|
      let row := c ++ [b.1]
      some (.inl (b.2.1, wI .i64 (t60 + 1), b.2.2.s, b.2.2.made, b.2.2.bad, row)))
      (
      oreq (decide ((c.length + 1) * 48 ≤ 2 ^ 47)) <|
      let row1 := c ++ [b.1]
      some (.inl (false, wI .i64 (t60 + 1), b.2.2.s, b.2.2.made, b.2.2.bad, row1))))
    (
    (octet_Reader_Bad (octet_Reader.mk xr xr1 xr2)).bind fun b1 =>
    cond (b1.1)
      (
      some (.inr ((saved_Record.mk (api_Key.mk 0 0) 0 [], 2))))
      (
      (octet_Reader_Rest b1.2).bind fun xr3 =>
      cond (!(xr3.1 == []))
        (
        some (.inr ((saved_Record.mk (api_Key.mk 0 0) 0 [], 3))))
        (
        cond (!good)
          (
          some (.inr ((saved_Record.mk (api_Key.mk 0 0) 0 [], 3))))
          (
          (saved_Right (saved_Record.mk (api_Key.mk xg.1 xg1.1) n1.1 c)).bind fun xr4 =>
          cond (!xr4)
            (
            some (.inr ((saved_Record.mk (api_Key.mk 0 0) 0 [], 1))))
            (
            some (.inr ((saved_Record.mk (api_Key.mk xg.1 xg1.1) n1.1 c, 0))))))))
def saved_GetF (octet_Get : (List UInt8) → Int → Int → Option (Int × Bool)) (octet_New : (List UInt8) → Option octet_Reader) (octet_Reader_Bad : octet_Reader → Option (Bool × octet_Reader)) (octet_Reader_Num : octet_Reader → Int → Option (Int × octet_Reader)) (octet_Reader_Rest : octet_Reader → Option ((List UInt8) × octet_Reader)) (octet_Reader_Text : octet_Reader → Int → Option ((List UInt8) × octet_Reader)) (saved_Right : saved_Record → Option Bool) (saved_backend : octet_Reader → Option (api_Backend × Bool × octet_Reader)) (saved_seal : (List UInt8) → Option (List UInt8)) (s : List UInt8) : Option (saved_Record × Int) :=
  cond (decide ((s.length : Int) < 31))
    (
    some ((saved_Record.mk (api_Key.mk 0 0) 0 [], 2)))
    (
    oreq (decide ((0 : Int) ≤ (wI .i64 ((s.length : Int) - 8)) ∧ (wI .i64 ((s.length : Int) - 8)) ≤ (s.length : Int))) <|
    let t := s.take (wI .i64 ((s.length : Int) - 8)).toNat
    oreq (decide ((0 : Int) ≤ (wI .i64 ((s.length : Int) - 8)) ∧ (wI .i64 ((s.length : Int) - 8)) ≤ (s.length : Int))) <|
    let t1 := (s.drop (wI .i64 ((s.length : Int) - 8)).toNat).take (s.length - (wI .i64 ((s.length : Int) - 8)).toNat)
    (octet_New t).bind fun n =>
    (octet_Reader_Text n 4).bind fun t2 =>
    cond (!(t2.1 == [67, 76, 75, 49]))
      (
      some ((saved_Record.mk (api_Key.mk 0 0) 0 [], 3)))
      (
      (saved_seal t).bind fun s1 =>
      cond (!(s1 == t1))
        (
        some ((saved_Record.mk (api_Key.mk 0 0) 0 [], 4)))
        (
        (octet_Reader_Text t2.2 8).bind fun t3 =>
        (octet_Get t3.1 0 8).bind fun xg =>
        (octet_Reader_Text t3.2 8).bind fun t4 =>
        (octet_Get t4.1 0 8).bind fun xg1 =>
        (octet_Reader_Num t4.2 2).bind fun n1 =>
        (octet_Reader_Num n1.2 1).bind fun n2 =>
        iter (fun st => saved_Get_s1 octet_Reader_Bad octet_Reader_Rest saved_Right saved_backend xg xg1 n1 n2 st.1 st.2.1 st.2.2.1 st.2.2.2.1 st.2.2.2.2.1 st.2.2.2.2.2) FUEL (true, 0, n2.2.s, n2.2.made, n2.2.bad, []))))
def rx48 (x : saved_Record × Int) : SRes := ⟨.tuple ⟨[.agg ⟨[.int .u64 x.1.Key.A, .int .u64 x.1.Key.B, .int .i64 x.1.Last, .slice (some ⟨0, 0, none⟩) x.1.L.length 6]⟩, .int .i64 x.2]⟩, [(vT capi_Backend x.1.L)], []⟩
def r48 (g : (List UInt8) → Option (saved_Record × Int)) : Dec := dV asS fun (y0 : List UInt8) => dEnd (ofG (g y0) rx48)
theorem r48_c {g : (List UInt8) → Option (saved_Record × Int)} {y0 : List UInt8} {x : saved_Record × Int} (hx : g y0 = some x) : r48 g [.string ⟨⟨y0⟩⟩] [] = some (rx48 x) := (dV_eq (asS_c)).trans (ofG_eq hx)
def s48 (g : (List UInt8) → Option (saved_Record × Int)) : Summ := ⟨[.v], r48 g⟩
theorem r48_eq {g : (List UInt8) → Option (saved_Record × Int)} {y0 : List UInt8} {x : saved_Record × Int} (hx : g y0 = some x) : (s48 g).run [.string ⟨⟨y0⟩⟩] [] = some (rx48 x) := r48_c hx
abbrev sums48 (octet_Get : (List UInt8) → Int → Int → Option (Int × Bool)) (octet_New : (List UInt8) → Option octet_Reader) (octet_Reader_Bad : octet_Reader → Option (Bool × octet_Reader)) (octet_Reader_Num : octet_Reader → Int → Option (Int × octet_Reader)) (octet_Reader_Rest : octet_Reader → Option ((List UInt8) × octet_Reader)) (octet_Reader_Text : octet_Reader → Int → Option ((List UInt8) × octet_Reader)) (saved_Right : saved_Record → Option Bool) (saved_backend : octet_Reader → Option (api_Backend × Bool × octet_Reader)) (saved_seal : (List UInt8) → Option (List UInt8)) : List (Nat × Summ) := [(99, s99 octet_Get), (96, s96 octet_New), (102, s102 octet_Reader_Bad), (100, s100 octet_Reader_Num), (103, s103 octet_Reader_Rest), (97, s97 octet_Reader_Text), (56, s56 saved_Right), (101, s101 saved_backend), (98, s98 saved_seal)]
def head48_1 (xg : Int × Bool) (xg1 : Int × Bool) (n1 : Int × octet_Reader) (n2 : Int × octet_Reader) (good : Bool) (t60 : Int) (xr : List UInt8) (xr1 : Bool) (xr2 : Bool) (c : List api_Backend) : VM :=
  ⟨⟨48, 97, [(2, .pointer (some ⟨0, 0, none⟩)), (6, .pointer (some ⟨12, 0, none⟩)), (7, .pointer (some ⟨13, 0, none⟩)), (8, .bool good), (59, .int .i64 n2.1), (60, .int .i64 t60)], [.code k48_36, .inLoop k48_36, .inBlock 1, .code k48_58], [], false, none⟩, [], [(0, .cells [.int .u64 0, .int .u64 0, .int .i64 0, .slice none 0 0]), (12, .row true [.string ⟨⟨xr⟩⟩, .bool xr1, .bool xr2]), (13, .cells [.int .u64 xg.1, .int .u64 xg1.1, .int .i64 n1.1, .slice (some ⟨14, 0, none⟩) c.length 6]), (14, .row true (vT capi_Backend c))], 15⟩
theorem loop48_1 (octet_Get : (List UInt8) → Int → Int → Option (Int × Bool)) (octet_New : (List UInt8) → Option octet_Reader) (octet_Reader_Bad : octet_Reader → Option (Bool × octet_Reader)) (octet_Reader_Num : octet_Reader → Int → Option (Int × octet_Reader)) (octet_Reader_Rest : octet_Reader → Option ((List UInt8) × octet_Reader)) (octet_Reader_Text : octet_Reader → Int → Option ((List UInt8) × octet_Reader)) (saved_Right : saved_Record → Option Bool) (saved_backend : octet_Reader → Option (api_Backend × Bool × octet_Reader)) (saved_seal : (List UInt8) → Option (List UInt8)) (hS : SumsOK Try.prog (aget (sums48 octet_Get octet_New octet_Reader_Bad octet_Reader_Num octet_Reader_Rest octet_Reader_Text saved_Right saved_backend saved_seal))) (xg : Int × Bool) (xg1 : Int × Bool) (n1 : Int × octet_Reader) (n2 : Int × octet_Reader) (res : saved_Record × Int) : ∀ fuel (st : Bool × Int × (List UInt8) × Bool × Bool × (List api_Backend)) (o : saved_Record × Int), iter (fun st => saved_Get_s1 octet_Reader_Bad octet_Reader_Rest saved_Right saved_backend xg xg1 n1 n2 st.1 st.2.1 st.2.2.1 st.2.2.2.1 st.2.2.2.2.1 st.2.2.2.2.2) fuel st = some o → (o = res) →
    Leads Try.prog 48 0 (head48_1 xg xg1 n1 n2 st.1 st.2.1 st.2.2.1 st.2.2.2.1 st.2.2.2.2.1 st.2.2.2.2.2) (fun v H t => ∃ v' H' t', NilW v H t v' H' t' ∧ Res 0 (rx48 res) v' H') := by
  intro fuel st o h hc
  refine iter_leads (head := fun st => head48_1 xg xg1 n1 n2 st.1 st.2.1 st.2.2.1 st.2.2.2.1 st.2.2.2.2.1 st.2.2.2.2.2) (C := fun o => (o = res)) ?_ fuel st o h hc
  clear h hc o st fuel
  intro st o h hc
  obtain ⟨good, t60, xr, xr1, xr2, c⟩ := st
  replace h : saved_Get_s1 octet_Reader_Bad octet_Reader_Rest saved_Right saved_backend xg xg1 n1 n2 good t60 xr xr1 xr2 c = some o := h
  show Leads Try.prog 48 0 (head48_1 xg xg1 n1 n2 good t60 xr xr1 xr2 c) (fun v H t => ∃ v' H' t', NilW v H t v' H' t' ∧ Res 0 (rx48 res) v' H')
  unfold saved_Get_s1 at h
  refine ev_ok tab_ok hS true 3000 ?_
  conv => whnf
  refine br.h h ?_ ?_ ?_
  · rfl
  · clear h; intro hb h; conv => whnf
    replace h := obind.elim h; obtain ⟨b, hy, h⟩ := h
    refine sumK.introF [12] (sumRun_of (aqs := [.pointer (some ⟨0, 0, none⟩)]) (ws := [.win 12 0 3 true]) (n := 0) (m := 0) (t' := 15) (ra_cons rfl rfl ra_nil) rfl (by rfl) (r101_eq hy) rfl rfl rfl rfl (wb_win rfl rfl rfl ⟨rfl, Nat.le_of_ble_eq_true rfl⟩ rfl rfl wb_nil) an_nil rfl) ?_
    conv => whnf
    refine br.h h ?_ ?_ ?_
    · rfl
    · clear h; intro hb h; conv => whnf
      replace h := oreq.elim h; obtain ⟨hb, h⟩ := h
      refine req.intro (ap_req (of_decide_eq_true hb) (by first | rfl | omega | (simp; done) | (simp; omega) | (simp at *; omega)) rfl (by first | rfl | omega | (simp; done) | (simp; omega) | (simp at *; omega)) (by first | rfl | exact vI_one _ _ | exact vS_one _ | exact vB_one _ | exact vT_one (by first | exact capi_Key_one | exact capi_Addr_one | exact capi_Backend_one | exact cArr4_Int_one | exact csip_Hasher_one | exact coctet_Reader_one | exact cR23_Step_one | exact chealth_Rule_one | exact chealth_State_one | exact cregistry_row_one) _ | (rw [ofBytes_vI]; exact vI_one _ _) | (simp [vI_one, vS_one, vB_one, vI_drop, vI_take, vS_drop, vS_take]; done) | (simp; exact List.all_eq_true.1 (vT_one (by first | exact capi_Key_one | exact capi_Addr_one | exact capi_Backend_one | exact cArr4_Int_one | exact csip_Hasher_one | exact coctet_Reader_one | exact cR23_Step_one | exact chealth_Rule_one | exact chealth_State_one | exact cregistry_row_one) _))) rfl) ?_
      conv => whnf
      let row : List api_Backend := c ++ [b.1]
      refine pk_apT capi_Backend_len (xs := c) (ys := [b.1]) rfl (by first | rfl | omega) (by first | rfl | omega | (simp; done) | (simp; omega) | (simp at *; omega)) (by first | rfl | omega | (simp; done) | (simp; omega) | (simp at *; omega)) ?_
      conv => whnf
      cases h; simp only [Sum.elim_inl, head48_1] at hc
      exact lrA0 hc [(0, 0), (12, 12), (13, 13), (14, 17)] rfl
    clear h; intro hb h; conv => whnf
    replace h := oreq.elim h; obtain ⟨hb, h⟩ := h
    refine req.intro (ap_req (of_decide_eq_true hb) (by first | rfl | omega | (simp; done) | (simp; omega) | (simp at *; omega)) rfl (by first | rfl | omega | (simp; done) | (simp; omega) | (simp at *; omega)) (by first | rfl | exact vI_one _ _ | exact vS_one _ | exact vB_one _ | exact vT_one (by first | exact capi_Key_one | exact capi_Addr_one | exact capi_Backend_one | exact cArr4_Int_one | exact csip_Hasher_one | exact coctet_Reader_one | exact cR23_Step_one | exact chealth_Rule_one | exact chealth_State_one | exact cregistry_row_one) _ | (rw [ofBytes_vI]; exact vI_one _ _) | (simp [vI_one, vS_one, vB_one, vI_drop, vI_take, vS_drop, vS_take]; done) | (simp; exact List.all_eq_true.1 (vT_one (by first | exact capi_Key_one | exact capi_Addr_one | exact capi_Backend_one | exact cArr4_Int_one | exact csip_Hasher_one | exact coctet_Reader_one | exact cR23_Step_one | exact chealth_Rule_one | exact chealth_State_one | exact cregistry_row_one) _))) rfl) ?_
    conv => whnf
    let row1 : List api_Backend := c ++ [b.1]
    refine pk_apT capi_Backend_len (xs := c) (ys := [b.1]) rfl (by first | rfl | omega) (by first | rfl | omega | (simp; done) | (simp; omega) | (simp at *; omega)) (by first | rfl | omega | (simp; done) | (simp; omega) | (simp at *; omega)) ?_
    conv => whnf
    cases h; simp only [Sum.elim_inl, head48_1] at hc
    exact lrA0 hc [(0, 0), (12, 12), (13, 13), (14, 17)] rfl
  clear h; intro hb h; conv => whnf
  replace h := obind.elim h; obtain ⟨b1, hy, h⟩ := h
  refine sumK.introF [12] (sumRun_of (aqs := [.pointer (some ⟨0, 0, none⟩)]) (ws := [.win 12 0 3 true]) (n := 0) (m := 0) (t' := 15) (ra_cons rfl rfl ra_nil) rfl (by rfl) (r102_eq hy) rfl rfl rfl rfl (wb_win rfl rfl rfl ⟨rfl, Nat.le_of_ble_eq_true rfl⟩ rfl rfl wb_nil) an_nil rfl) ?_
  conv => whnf
  refine br.h h ?_ ?_ ?_
  · rfl
  · clear h; intro hb h; conv => whnf
    all_goals (cases h; cases hc)
    all_goals exact ⟨_, _, _, (.val (.tup (.cons (.agg (.cons (.same _) (.cons (.same _) (.cons (.same _) (.cons (.nil _ _) .nil))))) (.cons (.same _) .nil))) (.refl _ _ _)), Res.of [15] rfl (nw_s (rn_T capi_Backend_flat) (hs_row rfl) nw_0) (by decide) (js_l (by decide) js_0) wr_0⟩
  clear h; intro hb h; conv => whnf
  replace h := obind.elim h; obtain ⟨xr3, hy, h⟩ := h
  refine sumK.introF [12] (sumRun_of (aqs := [.pointer (some ⟨0, 0, none⟩)]) (ws := [.win 12 0 3 true]) (n := 0) (m := 0) (t' := 15) (ra_cons rfl rfl ra_nil) rfl (by rfl) (r103_eq hy) rfl rfl rfl rfl (wb_win rfl rfl rfl ⟨rfl, Nat.le_of_ble_eq_true rfl⟩ rfl rfl wb_nil) an_nil rfl) ?_
  conv => whnf
  refine br.h h ?_ ?_ ?_
  · rfl
  · clear h; intro hb h; conv => whnf
    all_goals (cases h; cases hc)
    all_goals exact ⟨_, _, _, (.val (.tup (.cons (.agg (.cons (.same _) (.cons (.same _) (.cons (.same _) (.cons (.nil _ _) .nil))))) (.cons (.same _) .nil))) (.refl _ _ _)), Res.of [15] rfl (nw_s (rn_T capi_Backend_flat) (hs_row rfl) nw_0) (by decide) (js_l (by decide) js_0) wr_0⟩
  clear h; intro hb h; conv => whnf
  refine br.h h ?_ ?_ ?_
  · rfl
  · clear h; intro hb h; conv => whnf
    all_goals (cases h; cases hc)
    all_goals exact ⟨_, _, _, (.val (.tup (.cons (.agg (.cons (.same _) (.cons (.same _) (.cons (.same _) (.cons (.nil _ _) .nil))))) (.cons (.same _) .nil))) (.refl _ _ _)), Res.of [15] rfl (nw_s (rn_T capi_Backend_flat) (hs_row rfl) nw_0) (by decide) (js_l (by decide) js_0) wr_0⟩
  clear h; intro hb h; conv => whnf
  replace h := obind.elim h; obtain ⟨xr4, hy, h⟩ := h
  refine sumK.introF [] (sumRun_of (aqs := [.agg ⟨[.int .u64 (saved_Record.mk (api_Key.mk xg.1 xg1.1) n1.1 c).Key.A, .int .u64 (saved_Record.mk (api_Key.mk xg.1 xg1.1) n1.1 c).Key.B, .int .i64 (saved_Record.mk (api_Key.mk xg.1 xg1.1) n1.1 c).Last, .slice (some ⟨0, 0, none⟩) (saved_Record.mk (api_Key.mk xg.1 xg1.1) n1.1 c).L.length 6]⟩]) (ws := [.blk 14 false]) (n := 0) (m := 0) (t' := 15) (ra_cons (ra_tr rfl rfl (vp_at rfl rfl (rn_T capi_Backend_flat) rfl vp_nil) rfl) rfl ra_nil) rfl (by rfl) (r56_eq hy) rfl rfl rfl rfl (wb_skip rfl wb_nil) an_nil rfl) ?_
  conv => whnf
  refine br.h h ?_ ?_ ?_
  · rfl
  · clear h; intro hb h; conv => whnf
    all_goals (cases h; cases hc)
    all_goals exact ⟨_, _, _, (.val (.tup (.cons (.agg (.cons (.same _) (.cons (.same _) (.cons (.same _) (.cons (.nil _ _) .nil))))) (.cons (.same _) .nil))) (.refl _ _ _)), Res.of [15] rfl (nw_s (rn_T capi_Backend_flat) (hs_row rfl) nw_0) (by decide) (js_l (by decide) js_0) wr_0⟩
  clear h; intro hb h; conv => whnf
  all_goals (cases h; cases hc)
  all_goals exact ⟨_, _, _, (.refl _ _ _), Res.of [14] rfl (nw_s (rn_T capi_Backend_flat) (hs_row rfl) nw_0) (by decide) (js_l (by decide) js_0) wr_0⟩
theorem leads48 (octet_Get : (List UInt8) → Int → Int → Option (Int × Bool)) (octet_New : (List UInt8) → Option octet_Reader) (octet_Reader_Bad : octet_Reader → Option (Bool × octet_Reader)) (octet_Reader_Num : octet_Reader → Int → Option (Int × octet_Reader)) (octet_Reader_Rest : octet_Reader → Option ((List UInt8) × octet_Reader)) (octet_Reader_Text : octet_Reader → Int → Option ((List UInt8) × octet_Reader)) (saved_Right : saved_Record → Option Bool) (saved_backend : octet_Reader → Option (api_Backend × Bool × octet_Reader)) (saved_seal : (List UInt8) → Option (List UInt8)) (hS : SumsOK Try.prog (aget (sums48 octet_Get octet_New octet_Reader_Bad octet_Reader_Num octet_Reader_Rest octet_Reader_Text saved_Right saved_backend saved_seal))) (s : List UInt8) (res : saved_Record × Int) (h : saved_GetF octet_Get octet_New octet_Reader_Bad octet_Reader_Num octet_Reader_Rest octet_Reader_Text saved_Right saved_backend saved_seal s = some res) :
    Leads Try.prog 48 0 ⟨⟨48, 97, [(0, .string ⟨⟨s⟩⟩)], [.code k48_69], [], false, none⟩, [], [], 0⟩ (fun v H _ => Res 0 (rx48 res) v H) := by
  refine Leads.nilW (R := fun v' H' => Res 0 (rx48 res) v' H') ?_
  unfold saved_GetF at h
  refine ev_ok tab_ok hS true 3000 ?_
  conv => whnf
  refine br.h h ?_ ?_ ?_
  · rfl
  · clear h; intro hb h; conv => whnf
    all_goals (cases h)
    all_goals exact ⟨_, _, _, (.val (.tup (.cons (.agg (.cons (.same _) (.cons (.same _) (.cons (.same _) (.cons (.nil _ _) .nil))))) (.cons (.same _) .nil))) (.refl _ _ _)), Res.of [1] rfl (nw_s (rn_T capi_Backend_flat) (hs_row rfl) nw_0) (by decide) (js_l (by decide) js_0) wr_0⟩
  clear h; intro hb h; conv => whnf
  replace h := oreq.elim h; obtain ⟨hb, h⟩ := h
  first | (refine req.intro hb ?_; conv => whnf) | skip
  let t : List UInt8 := s.take (wI .i64 ((s.length : Int) - 8)).toNat
  replace h := oreq.elim h; obtain ⟨hb, h⟩ := h
  first | (refine req.intro hb ?_; conv => whnf) | skip
  let t1 : List UInt8 := (s.drop (wI .i64 ((s.length : Int) - 8)).toNat).take (s.length - (wI .i64 ((s.length : Int) - 8)).toNat)
  replace h := obind.elim h; obtain ⟨n, hy, h⟩ := h
  refine sumK.introF [12] (sumRun_of (aqs := [.string ⟨⟨t⟩⟩]) (ws := []) (n := 1) (m := 0) (t' := 13) (ra_cons rfl rfl ra_nil) rfl (by rfl) (r96_eq hy) rfl rfl rfl rfl wb_nil (an_cons (rfl) an_nil) rfl) ?_
  conv => whnf
  replace h := obind.elim h; obtain ⟨t2, hy, h⟩ := h
  refine sumK.introF [12] (sumRun_of (aqs := [.pointer (some ⟨0, 0, none⟩), .int .i64 4]) (ws := [.win 12 0 3 true]) (n := 0) (m := 0) (t' := 13) (ra_cons rfl rfl (ra_cons rfl rfl ra_nil)) rfl (by rfl) (r97_eq hy) rfl rfl rfl rfl (wb_win rfl rfl rfl ⟨rfl, Nat.le_of_ble_eq_true rfl⟩ rfl rfl wb_nil) an_nil rfl) ?_
  conv => whnf
  refine br.h h ?_ ?_ ?_
  · rfl
  · clear h; intro hb h; conv => whnf
    all_goals (cases h)
    all_goals exact ⟨_, _, _, (.val (.tup (.cons (.agg (.cons (.same _) (.cons (.same _) (.cons (.same _) (.cons (.nil _ _) .nil))))) (.cons (.same _) .nil))) (.refl _ _ _)), Res.of [13] rfl (nw_s (rn_T capi_Backend_flat) (hs_row rfl) nw_0) (by decide) (js_l (by decide) js_0) wr_0⟩
  clear h; intro hb h; conv => whnf
  replace h := obind.elim h; obtain ⟨s1, hy, h⟩ := h
  refine sumK.q rfl rfl (r98_eq hy) rfl rfl rfl ?_
  conv => whnf
  refine br.h h ?_ ?_ ?_
  · rfl
  · clear h; intro hb h; conv => whnf
    all_goals (cases h)
    all_goals exact ⟨_, _, _, (.val (.tup (.cons (.agg (.cons (.same _) (.cons (.same _) (.cons (.same _) (.cons (.nil _ _) .nil))))) (.cons (.same _) .nil))) (.refl _ _ _)), Res.of [13] rfl (nw_s (rn_T capi_Backend_flat) (hs_row rfl) nw_0) (by decide) (js_l (by decide) js_0) wr_0⟩
  clear h; intro hb h; conv => whnf
  replace h := obind.elim h; obtain ⟨t3, hy, h⟩ := h
  refine sumK.introF [12] (sumRun_of (aqs := [.pointer (some ⟨0, 0, none⟩), .int .i64 8]) (ws := [.win 12 0 3 true]) (n := 0) (m := 0) (t' := 14) (ra_cons rfl rfl (ra_cons rfl rfl ra_nil)) rfl (by rfl) (r97_eq hy) rfl rfl rfl rfl (wb_win rfl rfl rfl ⟨rfl, Nat.le_of_ble_eq_true rfl⟩ rfl rfl wb_nil) an_nil rfl) ?_
  conv => whnf
  replace h := obind.elim h; obtain ⟨xg, hy, h⟩ := h
  refine sumK.q rfl rfl (r99_eq hy) rfl rfl rfl ?_
  conv => whnf
  replace h := obind.elim h; obtain ⟨t4, hy, h⟩ := h
  refine sumK.introF [12] (sumRun_of (aqs := [.pointer (some ⟨0, 0, none⟩), .int .i64 8]) (ws := [.win 12 0 3 true]) (n := 0) (m := 0) (t' := 14) (ra_cons rfl rfl (ra_cons rfl rfl ra_nil)) rfl (by rfl) (r97_eq hy) rfl rfl rfl rfl (wb_win rfl rfl rfl ⟨rfl, Nat.le_of_ble_eq_true rfl⟩ rfl rfl wb_nil) an_nil rfl) ?_
  conv => whnf
  replace h := obind.elim h; obtain ⟨xg1, hy, h⟩ := h
  refine sumK.q rfl rfl (r99_eq hy) rfl rfl rfl ?_
  conv => whnf
  replace h := obind.elim h; obtain ⟨n1, hy, h⟩ := h
  refine sumK.introF [12] (sumRun_of (aqs := [.pointer (some ⟨0, 0, none⟩), .int .i64 2]) (ws := [.win 12 0 3 true]) (n := 0) (m := 0) (t' := 14) (ra_cons rfl rfl (ra_cons rfl rfl ra_nil)) rfl (by rfl) (r100_eq hy) rfl rfl rfl rfl (wb_win rfl rfl rfl ⟨rfl, Nat.le_of_ble_eq_true rfl⟩ rfl rfl wb_nil) an_nil rfl) ?_
  conv => whnf
  replace h := obind.elim h; obtain ⟨n2, hy, h⟩ := h
  refine sumK.introF [12] (sumRun_of (aqs := [.pointer (some ⟨0, 0, none⟩), .int .i64 1]) (ws := [.win 12 0 3 true]) (n := 0) (m := 0) (t' := 14) (ra_cons rfl rfl (ra_cons rfl rfl ra_nil)) rfl (by rfl) (r100_eq hy) rfl rfl rfl rfl (wb_win rfl rfl rfl ⟨rfl, Nat.le_of_ble_eq_true rfl⟩ rfl rfl wb_nil) an_nil rfl) ?_
  conv => whnf
  have hl := loop48_1 octet_Get octet_New octet_Reader_Bad octet_Reader_Num octet_Reader_Rest octet_Reader_Text saved_Right saved_backend saved_seal hS _ _ _ _ res _ _ _ h rfl; simp only [head48_1] at hl
  refine Leads.nilC 13 3 6 ?_
  exact lrA0 hl [(0, 0), (12, 12), (13, 13), (14, 14)] rfl
theorem ok48 (octet_Get : (List UInt8) → Int → Int → Option (Int × Bool)) (octet_New : (List UInt8) → Option octet_Reader) (octet_Reader_Bad : octet_Reader → Option (Bool × octet_Reader)) (octet_Reader_Num : octet_Reader → Int → Option (Int × octet_Reader)) (octet_Reader_Rest : octet_Reader → Option ((List UInt8) × octet_Reader)) (octet_Reader_Text : octet_Reader → Int → Option ((List UInt8) × octet_Reader)) (saved_Right : saved_Record → Option Bool) (saved_backend : octet_Reader → Option (api_Backend × Bool × octet_Reader)) (saved_seal : (List UInt8) → Option (List UInt8)) (hS : SumsOK Try.prog (aget (sums48 octet_Get octet_New octet_Reader_Bad octet_Reader_Num octet_Reader_Rest octet_Reader_Text saved_Right saved_backend saved_seal))) : SumOK Try.prog 48 (s48 (saved_GetF octet_Get octet_New octet_Reader_Bad octet_Reader_Num octet_Reader_Rest octet_Reader_Text saved_Right saved_backend saved_seal)) := by
  refine SumOK.of_leads tab_ok (fun ar os r ha hr => ?_) ⟨Try.f48, rfl, by decide, rfl⟩
  replace hr : r48 (saved_GetF octet_Get octet_New octet_Reader_Bad octet_Reader_Num octet_Reader_Rest octet_Reader_Text saved_Right saved_backend saved_seal) ar (conts os) = some r := hr
  unfold r48 at hr
  generalize hc : conts os = C at hr
  replace hr := dV.elim hr; obtain ⟨v0, l1, y0, rfl, e0, hr⟩ := hr; obtain rfl := asS_eq _ _ e0
  replace hr := dFin hr; obtain ⟨rfl, rfl, x, h, rfl⟩ := hr
  obtain rfl := kinds_nil hc
  exact ⟨_, rfl, leads48 octet_Get octet_New octet_Reader_Bad octet_Reader_Num octet_Reader_Rest octet_Reader_Text saved_Right saved_backend saved_seal hS _ x h⟩
def saved_Get : (List UInt8) → Option (saved_Record × Int) := saved_GetF octet_Get octet_New octet_Reader_Bad octet_Reader_Num octet_Reader_Rest octet_Reader_Text saved_Right saved_backend saved_seal
theorem lift48 : SumOK Try.prog 48 (s48 saved_Get) := ok48 octet_Get octet_New octet_Reader_Bad octet_Reader_Num octet_Reader_Rest octet_Reader_Text saved_Right saved_backend saved_seal (SumsOK.of_tab ⟨lift99, lift96, lift102, lift100, lift103, lift97, lift56, lift101, lift98, trivial⟩)
def R04_GetF (R02_Get : (List UInt8) → Int → Int → Option (Int × Bool)) (s : List UInt8) : Option (api_Addr × Bool) :=
  cond ((s.length : Int) == 4)
    (
    (R02_Get s 0 4).bind fun xg =>
    some ((api_Addr.mk false 0 xg.1, true)))
    (
    cond ((s.length : Int) == 16)
      (
      (R02_Get s 0 8).bind fun xg1 =>
      (R02_Get s 8 8).bind fun xg2 =>
      some ((api_Addr.mk true xg1.1 xg2.1, true)))
      (
      some ((api_Addr.mk false 0 0, false))))
def rx107 (x : api_Addr × Bool) : SRes := ⟨.tuple ⟨[.agg ⟨[.bool x.1.V6, .int .u64 x.1.Hi, .int .u64 x.1.Lo]⟩, .bool x.2]⟩, [], []⟩
def r107 (g : (List UInt8) → Option (api_Addr × Bool)) : Dec := dV asS fun (y0 : List UInt8) => dEnd (ofG (g y0) rx107)
theorem r107_c {g : (List UInt8) → Option (api_Addr × Bool)} {y0 : List UInt8} {x : api_Addr × Bool} (hx : g y0 = some x) : r107 g [.string ⟨⟨y0⟩⟩] [] = some (rx107 x) := (dV_eq (asS_c)).trans (ofG_eq hx)
def s107 (g : (List UInt8) → Option (api_Addr × Bool)) : Summ := ⟨[.v], r107 g⟩
theorem r107_eq {g : (List UInt8) → Option (api_Addr × Bool)} {y0 : List UInt8} {x : api_Addr × Bool} (hx : g y0 = some x) : (s107 g).run [.string ⟨⟨y0⟩⟩] [] = some (rx107 x) := r107_c hx
abbrev sums107 (R02_Get : (List UInt8) → Int → Int → Option (Int × Bool)) : List (Nat × Summ) := [(105, s105 R02_Get)]
theorem leads107 (R02_Get : (List UInt8) → Int → Int → Option (Int × Bool)) (hS : SumsOK Try.prog (aget (sums107 R02_Get))) (s : List UInt8) (res : api_Addr × Bool) (h : R04_GetF R02_Get s = some res) :
    Leads Try.prog 107 0 ⟨⟨107, 37, [(0, .string ⟨⟨s⟩⟩)], [.code k107_21], [], false, none⟩, [], [], 0⟩ (fun v H _ => Res 0 (rx107 res) v H) := by
  unfold R04_GetF at h
  refine ev_ok tab_ok hS true 3000 ?_
  conv => whnf
  refine br.h h ?_ ?_ ?_
  · rfl
  · clear h; intro hb h; conv => whnf
    replace h := obind.elim h; obtain ⟨xg, hy, h⟩ := h
    refine sumK.q rfl rfl (r105_eq hy) rfl rfl rfl ?_
    conv => whnf
    all_goals (cases h; exact Res.z rfl rfl rfl)
  clear h; intro hb h; conv => whnf
  refine br.h2 h ?_ ?_ ?_
  · rfl
  · clear h; intro hb h; conv => whnf
    all_goals (cases h; exact Res.z rfl rfl rfl)
  clear h; intro hb h; conv => whnf
  replace h := obind.elim h; obtain ⟨xg1, hy, h⟩ := h
  refine sumK.q rfl rfl (r105_eq hy) rfl rfl rfl ?_
  conv => whnf
  replace h := obind.elim h; obtain ⟨xg2, hy, h⟩ := h
  refine sumK.q rfl rfl (r105_eq hy) rfl rfl rfl ?_
  conv => whnf
  all_goals (cases h; exact Res.z rfl rfl rfl)
theorem ok107 (R02_Get : (List UInt8) → Int → Int → Option (Int × Bool)) (hS : SumsOK Try.prog (aget (sums107 R02_Get))) : SumOK Try.prog 107 (s107 (R04_GetF R02_Get)) := by
  refine SumOK.of_leads tab_ok (fun ar os r ha hr => ?_) ⟨Try.f107, rfl, by decide, rfl⟩
  replace hr : r107 (R04_GetF R02_Get) ar (conts os) = some r := hr
  unfold r107 at hr
  generalize hc : conts os = C at hr
  replace hr := dV.elim hr; obtain ⟨v0, l1, y0, rfl, e0, hr⟩ := hr; obtain rfl := asS_eq _ _ e0
  replace hr := dFin hr; obtain ⟨rfl, rfl, x, h, rfl⟩ := hr
  obtain rfl := kinds_nil hc
  exact ⟨_, rfl, leads107 R02_Get hS _ x h⟩
def R04_Get : (List UInt8) → Option (api_Addr × Bool) := R04_GetF R02_Get
theorem lift107 : SumOK Try.prog 107 (s107 R04_Get) := ok107 R02_Get (SumsOK.of_tab ⟨lift105, trivial⟩)
def R55_Get_s1 (R02_Must : (List UInt8) → Int → Int → Option Int) (R04_Get : (List UInt8) → Option (api_Addr × Bool)) (R55_Right : saved_Record → Option Bool) (t : List UInt8) (xg : Int × Bool) (xg1 : Int × Bool) (m : Int) (xat : Int) (bad : Bool) (i : Int) (c : List api_Backend) : Option (Sum (Int × Bool × Int × (List api_Backend)) (saved_Record × Int)) :=
  (t[22]?).bind fun (b : UInt8) =>
  cond (decide (i < (wI .i64 (b.toNat : Int))))
    (
    let t2 := decide ((wI .i64 ((t.length : Int) - xat)) < 6)
    cond (t2)
      (
      some (.inr ((saved_Record.mk (api_Key.mk 0 0) 0 [], 2))))
      (
      let t3 := wI .i64 ((wI .i64 ((t.length : Int) - xat)) - 6)
      oreq (decide (0 ≤ (wI .i64 (xat + 5)))) <|
      (t[(wI .i64 (xat + 5)).toNat]?).bind fun (b1 : UInt8) =>
      cond (decide (t3 < (wI .i64 (b1.toNat : Int))))
        (
        some (.inr ((saved_Record.mk (api_Key.mk 0 0) 0 [], 2))))
        (
        oreq (decide (0 ≤ (wI .i64 (xat + 5)))) <|
        (t[(wI .i64 (xat + 5)).toNat]?).bind fun (b2 : UInt8) =>
        let t4 := wI .i64 ((wI .i64 (xat + 6)) + (wI .i64 (b2.toNat : Int)))
        oreq (decide ((0 : Int) ≤ t4 ∧ t4 ≤ (t.length : Int) ∧ (0 : Int) ≤ (wI .i64 (xat + 6)) ∧ (wI .i64 (xat + 6)) ≤ (t4.toNat : Int))) <|
        let t5 := (t.drop (wI .i64 (xat + 6)).toNat).take (t4.toNat - (wI .i64 (xat + 6)).toNat)
        (R04_Get t5).bind fun xg2 =>
        cond (bad)
          (
          (R02_Must t xat 2).bind fun m1 =>
          (R02_Must t (wI .i64 (xat + 2)) 2).bind fun m2 =>
          oreq (decide (0 ≤ (wI .i64 (xat + 4)))) <|
          (t[(wI .i64 (xat + 4)).toNat]?).bind fun (b3 : UInt8) =>
          oreq (decide ((c.length + 1) * 48 ≤ 2 ^ 47)) <|
          let row := c ++ [api_Backend.mk m1 m2 (wI .i64 (b3.toNat : Int)) xg2.1]
          let t6 := wI .i64 ((wI .i64 (xat + 6)) + (wI .i64 (b2.toNat : Int)))
          some (.inl (t6, true, wI .i64 (i + 1), row)))
          (
          (R02_Must t xat 2).bind fun m3 =>
          (R02_Must t (wI .i64 (xat + 2)) 2).bind fun m4 =>
          oreq (decide (0 ≤ (wI .i64 (xat + 4)))) <|
          (t[(wI .i64 (xat + 4)).toNat]?).bind fun (b4 : UInt8) =>
          oreq (decide ((c.length + 1) * 48 ≤ 2 ^ 47)) <|
          let row1 := c ++ [api_Backend.mk m3 m4 (wI .i64 (b4.toNat : Int)) xg2.1]
          let t7 := wI .i64 ((wI .i64 (xat + 6)) + (wI .i64 (b2.toNat : Int)))
          some (.inl (t7, !xg2.2, wI .i64 (i + 1), row1))))))
    (
    cond (xat != (t.length : Int))
      (
      some (.inr ((saved_Record.mk (api_Key.mk 0 0) 0 [], 3))))
      (
      cond (bad)
        (
        some (.inr ((saved_Record.mk (api_Key.mk 0 0) 0 [], 3))))
        (
        (R55_Right (saved_Record.mk (api_Key.mk xg.1 xg1.1) m c)).bind fun xr1 =>
        cond (!xr1)
          (
          some (.inr ((saved_Record.mk (api_Key.mk 0 0) 0 [], 1))))
          (
          some (.inr ((saved_Record.mk (api_Key.mk xg.1 xg1.1) m c, 0)))))))
def R55_GetF (R02_Get : (List UInt8) → Int → Int → Option (Int × Bool)) (R02_Must : (List UInt8) → Int → Int → Option Int) (R04_Get : (List UInt8) → Option (api_Addr × Bool)) (R55_Right : saved_Record → Option Bool) (R55_Seal : (List UInt8) → Option (List UInt8)) (s : List UInt8) : Option (saved_Record × Int) :=
  cond (decide ((s.length : Int) < 31))
    (
    some ((saved_Record.mk (api_Key.mk 0 0) 0 [], 2)))
    (
    oreq (decide ((0 : Int) ≤ (wI .i64 ((s.length : Int) - 8)) ∧ (wI .i64 ((s.length : Int) - 8)) ≤ (s.length : Int))) <|
    let t := s.take (wI .i64 ((s.length : Int) - 8)).toNat
    oreq (decide ((0 : Int) ≤ (4 : Int) ∧ (4 : Int) ≤ (s.length : Int))) <|
    cond (!((s.take 4) == [67, 76, 75, 49]))
      (
      some ((saved_Record.mk (api_Key.mk 0 0) 0 [], 3)))
      (
      (R55_Seal t).bind fun s1 =>
      oreq (decide ((0 : Int) ≤ (wI .i64 ((s.length : Int) - 8)) ∧ (wI .i64 ((s.length : Int) - 8)) ≤ (s.length : Int))) <|
      let t1 := (s.drop (wI .i64 ((s.length : Int) - 8)).toNat).take (s.length - (wI .i64 ((s.length : Int) - 8)).toNat)
      cond (!(s1 == t1))
        (
        some ((saved_Record.mk (api_Key.mk 0 0) 0 [], 4)))
        (
        (R02_Get t 4 8).bind fun xg =>
        (R02_Get t 12 8).bind fun xg1 =>
        (R02_Must t 20 2).bind fun m =>
        iter (fun st => R55_Get_s1 R02_Must R04_Get R55_Right t xg xg1 m st.1 st.2.1 st.2.2.1 st.2.2.2) FUEL (23, false, 0, []))))
def rx50 (x : saved_Record × Int) : SRes := ⟨.tuple ⟨[.agg ⟨[.int .u64 x.1.Key.A, .int .u64 x.1.Key.B, .int .i64 x.1.Last, .slice (some ⟨0, 0, none⟩) x.1.L.length 6]⟩, .int .i64 x.2]⟩, [(vT capi_Backend x.1.L)], []⟩
def r50 (g : (List UInt8) → Option (saved_Record × Int)) : Dec := dV asS fun (y0 : List UInt8) => dEnd (ofG (g y0) rx50)
theorem r50_c {g : (List UInt8) → Option (saved_Record × Int)} {y0 : List UInt8} {x : saved_Record × Int} (hx : g y0 = some x) : r50 g [.string ⟨⟨y0⟩⟩] [] = some (rx50 x) := (dV_eq (asS_c)).trans (ofG_eq hx)
def s50 (g : (List UInt8) → Option (saved_Record × Int)) : Summ := ⟨[.v], r50 g⟩
theorem r50_eq {g : (List UInt8) → Option (saved_Record × Int)} {y0 : List UInt8} {x : saved_Record × Int} (hx : g y0 = some x) : (s50 g).run [.string ⟨⟨y0⟩⟩] [] = some (rx50 x) := r50_c hx
abbrev sums50 (R02_Get : (List UInt8) → Int → Int → Option (Int × Bool)) (R02_Must : (List UInt8) → Int → Int → Option Int) (R04_Get : (List UInt8) → Option (api_Addr × Bool)) (R55_Right : saved_Record → Option Bool) (R55_Seal : (List UInt8) → Option (List UInt8)) : List (Nat × Summ) := [(105, s105 R02_Get), (106, s106 R02_Must), (107, s107 R04_Get), (57, s57 R55_Right), (49, s49 R55_Seal)]
def head50_1 (t : List UInt8) (xg : Int × Bool) (xg1 : Int × Bool) (m : Int) (xat : Int) (bad : Bool) (i : Int) (c : List api_Backend) : VM :=
  ⟨⟨50, 138, [(2, .pointer (some ⟨0, 0, none⟩)), (4, .string ⟨⟨t⟩⟩), (9, .pointer (some ⟨8, 0, none⟩)), (10, .int .i64 xat), (11, .bool bad), (12, .int .i64 i)], [.code k50_43, .inLoop k50_43, .inBlock 0, .code k50_60], [], false, none⟩, [], [(0, .cells [.int .u64 0, .int .u64 0, .int .i64 0, .slice none 0 0]), (8, .cells [.int .u64 xg.1, .int .u64 xg1.1, .int .i64 m, .slice (some ⟨9, 0, none⟩) c.length 6]), (9, .row true (vT capi_Backend c))], 10⟩
theorem loop50_1 (R02_Get : (List UInt8) → Int → Int → Option (Int × Bool)) (R02_Must : (List UInt8) → Int → Int → Option Int) (R04_Get : (List UInt8) → Option (api_Addr × Bool)) (R55_Right : saved_Record → Option Bool) (R55_Seal : (List UInt8) → Option (List UInt8)) (hS : SumsOK Try.prog (aget (sums50 R02_Get R02_Must R04_Get R55_Right R55_Seal))) (t : List UInt8) (xg : Int × Bool) (xg1 : Int × Bool) (m : Int) (res : saved_Record × Int) : ∀ fuel (st : Int × Bool × Int × (List api_Backend)) (o : saved_Record × Int), iter (fun st => R55_Get_s1 R02_Must R04_Get R55_Right t xg xg1 m st.1 st.2.1 st.2.2.1 st.2.2.2) fuel st = some o → (o = res) →
    Leads Try.prog 50 0 (head50_1 t xg xg1 m st.1 st.2.1 st.2.2.1 st.2.2.2) (fun v H t => ∃ v' H' t', NilW v H t v' H' t' ∧ Res 0 (rx50 res) v' H') := by
  intro fuel st o h hc
  refine iter_leads (head := fun st => head50_1 t xg xg1 m st.1 st.2.1 st.2.2.1 st.2.2.2) (C := fun o => (o = res)) ?_ fuel st o h hc
  clear h hc o st fuel
  intro st o h hc
  obtain ⟨xat, bad, i, c⟩ := st
  replace h : R55_Get_s1 R02_Must R04_Get R55_Right t xg xg1 m xat bad i c = some o := h
  show Leads Try.prog 50 0 (head50_1 t xg xg1 m xat bad i c) (fun v H t => ∃ v' H' t', NilW v H t v' H' t' ∧ Res 0 (rx50 res) v' H')
  unfold R55_Get_s1 at h
  refine ev_ok tab_ok hS true 3000 ?_
  conv => whnf
  replace h := obind.elim h; obtain ⟨b, hy, h⟩ := h
  refine rdS.intro hy ?_
  conv => whnf
  refine br.h2 h ?_ ?_ ?_
  · rfl
  · clear h; intro hb h; conv => whnf
    refine br.h h ?_ ?_ ?_
    · rfl
    · clear h; intro hb h; conv => whnf
      all_goals (cases h; cases hc)
      all_goals exact ⟨_, _, _, (.val (.tup (.cons (.agg (.cons (.same _) (.cons (.same _) (.cons (.same _) (.cons (.nil _ _) .nil))))) (.cons (.same _) .nil))) (.refl _ _ _)), Res.of [10] rfl (nw_s (rn_T capi_Backend_flat) (hs_row rfl) nw_0) (by decide) (js_l (by decide) js_0) wr_0⟩
    clear h; intro hb h; conv => whnf
    refine br.h h ?_ ?_ ?_
    · rfl
    · clear h; intro hb h; conv => whnf
      all_goals (cases h; cases hc)
      all_goals exact ⟨_, _, _, (.val (.tup (.cons (.agg (.cons (.same _) (.cons (.same _) (.cons (.same _) (.cons (.nil _ _) .nil))))) (.cons (.same _) .nil))) (.refl _ _ _)), Res.of [10] rfl (nw_s (rn_T capi_Backend_flat) (hs_row rfl) nw_0) (by decide) (js_l (by decide) js_0) wr_0⟩
    clear h; intro hb h; conv => whnf
    replace h := obind.elim h; obtain ⟨xr1, hy, h⟩ := h
    refine sumK.introF [] (sumRun_of (aqs := [.agg ⟨[.int .u64 (saved_Record.mk (api_Key.mk xg.1 xg1.1) m c).Key.A, .int .u64 (saved_Record.mk (api_Key.mk xg.1 xg1.1) m c).Key.B, .int .i64 (saved_Record.mk (api_Key.mk xg.1 xg1.1) m c).Last, .slice (some ⟨0, 0, none⟩) (saved_Record.mk (api_Key.mk xg.1 xg1.1) m c).L.length 6]⟩]) (ws := [.blk 9 false]) (n := 0) (m := 0) (t' := 10) (ra_cons (ra_tr rfl rfl (vp_at rfl rfl (rn_T capi_Backend_flat) rfl vp_nil) rfl) rfl ra_nil) rfl (by rfl) (r57_eq hy) rfl rfl rfl rfl (wb_skip rfl wb_nil) an_nil rfl) ?_
    conv => whnf
    refine br.h h ?_ ?_ ?_
    · rfl
    · clear h; intro hb h; conv => whnf
      all_goals (cases h; cases hc)
      all_goals exact ⟨_, _, _, (.val (.tup (.cons (.agg (.cons (.same _) (.cons (.same _) (.cons (.same _) (.cons (.nil _ _) .nil))))) (.cons (.same _) .nil))) (.refl _ _ _)), Res.of [10] rfl (nw_s (rn_T capi_Backend_flat) (hs_row rfl) nw_0) (by decide) (js_l (by decide) js_0) wr_0⟩
    clear h; intro hb h; conv => whnf
    all_goals (cases h; cases hc)
    all_goals exact ⟨_, _, _, (.refl _ _ _), Res.of [9] rfl (nw_s (rn_T capi_Backend_flat) (hs_row rfl) nw_0) (by decide) (js_l (by decide) js_0) wr_0⟩
  clear h; intro hb h; conv => whnf
  let t2 : Bool := decide ((wI .i64 ((t.length : Int) - xat)) < 6)
  refine br.h h ?_ ?_ ?_
  · rfl
  · clear h; intro hb h; conv => whnf
    all_goals (cases h; cases hc)
    all_goals exact ⟨_, _, _, (.val (.tup (.cons (.agg (.cons (.same _) (.cons (.same _) (.cons (.same _) (.cons (.nil _ _) .nil))))) (.cons (.same _) .nil))) (.refl _ _ _)), Res.of [10] rfl (nw_s (rn_T capi_Backend_flat) (hs_row rfl) nw_0) (by decide) (js_l (by decide) js_0) wr_0⟩
  clear h; intro hb h; conv => whnf
  let t3 : Int := wI .i64 ((wI .i64 ((t.length : Int) - xat)) - 6)
  replace h := oreq.elim h; obtain ⟨hb, h⟩ := h
  first | (refine req.intro hb ?_; conv => whnf) | skip
  replace h := obind.elim h; obtain ⟨b1, hy, h⟩ := h
  refine rdS.intro hy ?_
  conv => whnf
  refine br.h h ?_ ?_ ?_
  · rfl
  · clear h; intro hb h; conv => whnf
    all_goals (cases h; cases hc)
    all_goals exact ⟨_, _, _, (.val (.tup (.cons (.agg (.cons (.same _) (.cons (.same _) (.cons (.same _) (.cons (.nil _ _) .nil))))) (.cons (.same _) .nil))) (.refl _ _ _)), Res.of [10] rfl (nw_s (rn_T capi_Backend_flat) (hs_row rfl) nw_0) (by decide) (js_l (by decide) js_0) wr_0⟩
  clear h; intro hb h; conv => whnf
  replace h := oreq.elim h; obtain ⟨hb, h⟩ := h
  first | (refine req.intro hb ?_; conv => whnf) | skip
  replace h := obind.elim h; obtain ⟨b2, hy, h⟩ := h
  refine rdS.intro hy ?_
  conv => whnf
  let t4 : Int := wI .i64 ((wI .i64 (xat + 6)) + (wI .i64 (b2.toNat : Int)))
  replace h := oreq.elim h; obtain ⟨hb, h⟩ := h
  first | (refine req.intro hb ?_; conv => whnf) | skip
  let t5 : List UInt8 := (t.drop (wI .i64 (xat + 6)).toNat).take (t4.toNat - (wI .i64 (xat + 6)).toNat)
  replace h := obind.elim h; obtain ⟨xg2, hy, h⟩ := h
  refine sumK.q rfl rfl (r107_eq hy) rfl rfl rfl ?_
  conv => whnf
  refine br.h h ?_ ?_ ?_
  · rfl
  · clear h; intro hb h; conv => whnf
    replace h := obind.elim h; obtain ⟨m1, hy, h⟩ := h
    refine sumK.q rfl rfl (r106_eq hy) rfl rfl rfl ?_
    conv => whnf
    replace h := obind.elim h; obtain ⟨m2, hy, h⟩ := h
    refine sumK.q rfl rfl (r106_eq hy) rfl rfl rfl ?_
    conv => whnf
    replace h := oreq.elim h; obtain ⟨hb, h⟩ := h
    first | (refine req.intro hb ?_; conv => whnf) | skip
    replace h := obind.elim h; obtain ⟨b3, hy, h⟩ := h
    refine rdS.intro hy ?_
    conv => whnf
    replace h := oreq.elim h; obtain ⟨hb, h⟩ := h
    refine req.intro (ap_req (of_decide_eq_true hb) (by first | rfl | omega | (simp; done) | (simp; omega) | (simp at *; omega)) rfl (by first | rfl | omega | (simp; done) | (simp; omega) | (simp at *; omega)) (by first | rfl | exact vI_one _ _ | exact vS_one _ | exact vB_one _ | exact vT_one (by first | exact capi_Key_one | exact capi_Addr_one | exact capi_Backend_one | exact cArr4_Int_one | exact csip_Hasher_one | exact coctet_Reader_one | exact cR23_Step_one | exact chealth_Rule_one | exact chealth_State_one | exact cregistry_row_one) _ | (rw [ofBytes_vI]; exact vI_one _ _) | (simp [vI_one, vS_one, vB_one, vI_drop, vI_take, vS_drop, vS_take]; done) | (simp; exact List.all_eq_true.1 (vT_one (by first | exact capi_Key_one | exact capi_Addr_one | exact capi_Backend_one | exact cArr4_Int_one | exact csip_Hasher_one | exact coctet_Reader_one | exact cR23_Step_one | exact chealth_Rule_one | exact chealth_State_one | exact cregistry_row_one) _))) rfl) ?_
    conv => whnf
    let row : List api_Backend := c ++ [api_Backend.mk m1 m2 (wI .i64 (b3.toNat : Int)) xg2.1]
    refine pk_apT capi_Backend_len (xs := c) (ys := [api_Backend.mk m1 m2 (wI .i64 (b3.toNat : Int)) xg2.1]) rfl (by first | rfl | omega) (by first | rfl | omega | (simp; done) | (simp; omega) | (simp at *; omega)) (by first | rfl | omega | (simp; done) | (simp; omega) | (simp at *; omega)) ?_
    conv => whnf
    let t6 : Int := wI .i64 ((wI .i64 (xat + 6)) + (wI .i64 (b2.toNat : Int)))
    cases h; simp only [Sum.elim_inl, head50_1] at hc
    exact lrA0 hc [(0, 0), (8, 8), (9, 29)] rfl
  clear h; intro hb h; conv => whnf
  replace h := obind.elim h; obtain ⟨m3, hy, h⟩ := h
  refine sumK.q rfl rfl (r106_eq hy) rfl rfl rfl ?_
  conv => whnf
  replace h := obind.elim h; obtain ⟨m4, hy, h⟩ := h
  refine sumK.q rfl rfl (r106_eq hy) rfl rfl rfl ?_
  conv => whnf
  replace h := oreq.elim h; obtain ⟨hb, h⟩ := h
  first | (refine req.intro hb ?_; conv => whnf) | skip
  replace h := obind.elim h; obtain ⟨b4, hy, h⟩ := h
  refine rdS.intro hy ?_
  conv => whnf
  replace h := oreq.elim h; obtain ⟨hb, h⟩ := h
  refine req.intro (ap_req (of_decide_eq_true hb) (by first | rfl | omega | (simp; done) | (simp; omega) | (simp at *; omega)) rfl (by first | rfl | omega | (simp; done) | (simp; omega) | (simp at *; omega)) (by first | rfl | exact vI_one _ _ | exact vS_one _ | exact vB_one _ | exact vT_one (by first | exact capi_Key_one | exact capi_Addr_one | exact capi_Backend_one | exact cArr4_Int_one | exact csip_Hasher_one | exact coctet_Reader_one | exact cR23_Step_one | exact chealth_Rule_one | exact chealth_State_one | exact cregistry_row_one) _ | (rw [ofBytes_vI]; exact vI_one _ _) | (simp [vI_one, vS_one, vB_one, vI_drop, vI_take, vS_drop, vS_take]; done) | (simp; exact List.all_eq_true.1 (vT_one (by first | exact capi_Key_one | exact capi_Addr_one | exact capi_Backend_one | exact cArr4_Int_one | exact csip_Hasher_one | exact coctet_Reader_one | exact cR23_Step_one | exact chealth_Rule_one | exact chealth_State_one | exact cregistry_row_one) _))) rfl) ?_
  conv => whnf
  let row1 : List api_Backend := c ++ [api_Backend.mk m3 m4 (wI .i64 (b4.toNat : Int)) xg2.1]
  refine pk_apT capi_Backend_len (xs := c) (ys := [api_Backend.mk m3 m4 (wI .i64 (b4.toNat : Int)) xg2.1]) rfl (by first | rfl | omega) (by first | rfl | omega | (simp; done) | (simp; omega) | (simp at *; omega)) (by first | rfl | omega | (simp; done) | (simp; omega) | (simp at *; omega)) ?_
  conv => whnf
  let t7 : Int := wI .i64 ((wI .i64 (xat + 6)) + (wI .i64 (b2.toNat : Int)))
  cases h; simp only [Sum.elim_inl, head50_1] at hc
  exact lrA0 hc [(0, 0), (8, 8), (9, 29)] rfl
theorem leads50 (R02_Get : (List UInt8) → Int → Int → Option (Int × Bool)) (R02_Must : (List UInt8) → Int → Int → Option Int) (R04_Get : (List UInt8) → Option (api_Addr × Bool)) (R55_Right : saved_Record → Option Bool) (R55_Seal : (List UInt8) → Option (List UInt8)) (hS : SumsOK Try.prog (aget (sums50 R02_Get R02_Must R04_Get R55_Right R55_Seal))) (s : List UInt8) (res : saved_Record × Int) (h : R55_GetF R02_Get R02_Must R04_Get R55_Right R55_Seal s = some res) :
    Leads Try.prog 50 0 ⟨⟨50, 138, [(0, .string ⟨⟨s⟩⟩)], [.code k50_70], [], false, none⟩, [], [], 0⟩ (fun v H _ => Res 0 (rx50 res) v H) := by
  refine Leads.nilW (R := fun v' H' => Res 0 (rx50 res) v' H') ?_
  unfold R55_GetF at h
  refine ev_ok tab_ok hS true 3000 ?_
  conv => whnf
  refine br.h h ?_ ?_ ?_
  · rfl
  · clear h; intro hb h; conv => whnf
    all_goals (cases h)
    all_goals exact ⟨_, _, _, (.val (.tup (.cons (.agg (.cons (.same _) (.cons (.same _) (.cons (.same _) (.cons (.nil _ _) .nil))))) (.cons (.same _) .nil))) (.refl _ _ _)), Res.of [1] rfl (nw_s (rn_T capi_Backend_flat) (hs_row rfl) nw_0) (by decide) (js_l (by decide) js_0) wr_0⟩
  clear h; intro hb h; conv => whnf
  replace h := oreq.elim h; obtain ⟨hb, h⟩ := h
  first | (refine req.intro hb ?_; conv => whnf) | skip
  let t : List UInt8 := s.take (wI .i64 ((s.length : Int) - 8)).toNat
  replace h := oreq.elim h; obtain ⟨hb, h⟩ := h
  first | (refine req.intro hb ?_; conv => whnf) | skip
  refine br.h h ?_ ?_ ?_
  · rfl
  · clear h; intro hb h; conv => whnf
    all_goals (cases h)
    all_goals exact ⟨_, _, _, (.val (.tup (.cons (.agg (.cons (.same _) (.cons (.same _) (.cons (.same _) (.cons (.nil _ _) .nil))))) (.cons (.same _) .nil))) (.refl _ _ _)), Res.of [1] rfl (nw_s (rn_T capi_Backend_flat) (hs_row rfl) nw_0) (by decide) (js_l (by decide) js_0) wr_0⟩
  clear h; intro hb h; conv => whnf
  replace h := obind.elim h; obtain ⟨s1, hy, h⟩ := h
  refine sumK.q rfl rfl (r49_eq hy) rfl rfl rfl ?_
  conv => whnf
  replace h := oreq.elim h; obtain ⟨hb, h⟩ := h
  first | (refine req.intro hb ?_; conv => whnf) | skip
  let t1 : List UInt8 := (s.drop (wI .i64 ((s.length : Int) - 8)).toNat).take (s.length - (wI .i64 ((s.length : Int) - 8)).toNat)
  refine br.h h ?_ ?_ ?_
  · rfl
  · clear h; intro hb h; conv => whnf
    all_goals (cases h)
    all_goals exact ⟨_, _, _, (.val (.tup (.cons (.agg (.cons (.same _) (.cons (.same _) (.cons (.same _) (.cons (.nil _ _) .nil))))) (.cons (.same _) .nil))) (.refl _ _ _)), Res.of [8] rfl (nw_s (rn_T capi_Backend_flat) (hs_row rfl) nw_0) (by decide) (js_l (by decide) js_0) wr_0⟩
  clear h; intro hb h; conv => whnf
  replace h := obind.elim h; obtain ⟨xg, hy, h⟩ := h
  refine sumK.q rfl rfl (r105_eq hy) rfl rfl rfl ?_
  conv => whnf
  replace h := obind.elim h; obtain ⟨xg1, hy, h⟩ := h
  refine sumK.q rfl rfl (r105_eq hy) rfl rfl rfl ?_
  conv => whnf
  replace h := obind.elim h; obtain ⟨m, hy, h⟩ := h
  refine sumK.q rfl rfl (r106_eq hy) rfl rfl rfl ?_
  conv => whnf
  have hl := loop50_1 R02_Get R02_Must R04_Get R55_Right R55_Seal hS _ _ _ _ res _ _ _ h rfl; simp only [head50_1] at hl
  refine Leads.nilC 8 3 6 ?_
  exact lrA0 hl [(0, 0), (8, 8), (9, 9)] rfl
theorem ok50 (R02_Get : (List UInt8) → Int → Int → Option (Int × Bool)) (R02_Must : (List UInt8) → Int → Int → Option Int) (R04_Get : (List UInt8) → Option (api_Addr × Bool)) (R55_Right : saved_Record → Option Bool) (R55_Seal : (List UInt8) → Option (List UInt8)) (hS : SumsOK Try.prog (aget (sums50 R02_Get R02_Must R04_Get R55_Right R55_Seal))) : SumOK Try.prog 50 (s50 (R55_GetF R02_Get R02_Must R04_Get R55_Right R55_Seal)) := by
  refine SumOK.of_leads tab_ok (fun ar os r ha hr => ?_) ⟨Try.f50, rfl, by decide, rfl⟩
  replace hr : r50 (R55_GetF R02_Get R02_Must R04_Get R55_Right R55_Seal) ar (conts os) = some r := hr
  unfold r50 at hr
  generalize hc : conts os = C at hr
  replace hr := dV.elim hr; obtain ⟨v0, l1, y0, rfl, e0, hr⟩ := hr; obtain rfl := asS_eq _ _ e0
  replace hr := dFin hr; obtain ⟨rfl, rfl, x, h, rfl⟩ := hr
  obtain rfl := kinds_nil hc
  exact ⟨_, rfl, leads50 R02_Get R02_Must R04_Get R55_Right R55_Seal hS _ x h⟩
def R55_Get : (List UInt8) → Option (saved_Record × Int) := R55_GetF R02_Get R02_Must R04_Get R55_Right R55_Seal
theorem lift50 : SumOK Try.prog 50 (s50 R55_Get) := ok50 R02_Get R02_Must R04_Get R55_Right R55_Seal (SumsOK.of_tab ⟨lift105, lift106, lift107, lift57, lift49, trivial⟩)
end Go.Vm.Code
namespace Go.Vm.Code
open Go Go.Vm
def addrG (a : List UInt8) : api_Addr × Bool :=
  if a.length = 4 then (⟨false, 0, ((valL a : Nat) : Int)⟩, true) else if a.length = 16 then (⟨true, ((valL (a.take 8) : Nat) : Int), ((valL (a.drop 8) : Nat) : Int)⟩, true) else (⟨false, 0, 0⟩, false)
theorem getS_all {a : List UInt8} {k : Nat} (hk : 1 ≤ k) (h8 : k ≤ 8) (h : a.length = k) : getS a 0 (k : Int) = (((valL a : Nat) : Int), true) := by
  rw [getS_at (by omega) (by omega) (by omega) (by omega)]
  simp only [Int.toNat_natCast, show (0 : Int).toNat = 0 from rfl, List.drop_zero]
  rw [List.take_of_length_le (by omega)]
theorem agetG {a : List UInt8} (G : List UInt8 → Int → Int → Option (Int × Bool)) (hG : ∀ p k, G a p k = some (getS a p k)) :
    cond ((a.length : Int) == 4) ((G a 0 4).bind fun xg => some ((api_Addr.mk false 0 xg.1, true)))
      (cond ((a.length : Int) == 16) ((G a 0 8).bind fun xg1 => (G a 8 8).bind fun xg2 => some ((api_Addr.mk true xg1.1 xg2.1, true))) (some ((api_Addr.mk false 0 0, false)))) = some (addrG a) := by
  unfold addrG
  by_cases h4 : a.length = 4
  · rw [show ((a.length : Int) == 4) = true from by rw [beq_iff_eq]; omega, cond_true, hG, Option.bind_some, show getS a 0 4 = _ from getS_all (k := 4) (by decide) (by decide) h4, if_pos h4]
  · rw [show ((a.length : Int) == 4) = false from by rw [beq_eq_false_iff_ne]; omega, cond_false, if_neg h4]
    by_cases h16 : a.length = 16
    · rw [show ((a.length : Int) == 16) = true from by rw [beq_iff_eq]; omega, cond_true, hG, Option.bind_some, hG, Option.bind_some, getS_at (by omega) (by omega) (by omega) (by omega), getS_at (by omega) (by omega) (by omega) (by omega), if_pos h16]
      simp only [show (0 : Int).toNat = 0 from rfl, show (8 : Int).toNat = 8 from rfl, List.drop_zero]
      rw [List.take_of_length_le (l := a.drop 8) (by rw [List.length_drop]; omega)]
    · rw [show ((a.length : Int) == 16) = false from by rw [beq_eq_false_iff_ne]; omega, cond_false, if_neg h16]
theorem paget_eq {a : List UInt8} (h : a.length < 2 ^ 40) : addr_Get a = some (addrG a) := by
  unfold addr_Get addr_GetF
  exact agetG octet_Get (fun p k => octet_Get_eq (by omega))
theorem raget_eq {a : List UInt8} (h : a.length < 2 ^ 40) : R04_Get a = some (addrG a) := by
  unfold R04_Get R04_GetF
  exact agetG R02_Get (fun p k => R02_Get_eq (by omega))
def alen (s : List UInt8) : Nat := valL ((s.drop 5).take 1)
def adrS (s : List UInt8) : List UInt8 := (s.drop 6).take (alen s)
def rec1 (s : List UInt8) : api_Backend := ⟨((valL (s.take 2) : Nat) : Int), ((valL ((s.drop 2).take 2) : Nat) : Int), ((valL ((s.drop 4).take 1) : Nat) : Int), (addrG (adrS s)).1⟩
def recs : Nat → List UInt8 → Option (List api_Backend × Bool × List UInt8)
  | 0, s => some ([], true, s)
  | n + 1, s => if s.length < 6 then none else if s.length < 6 + alen s then none else
    match recs n (s.drop (6 + alen s)) with
    | none => none
    | some (l, g, r) => some (rec1 s :: l, (addrG (adrS s)).2 && g, r)
theorem recs_len : ∀ {n : Nat} {s : List UInt8} {l : List api_Backend} {g : Bool} {r : List UInt8}, recs n s = some (l, g, r) → l.length = n ∧ r.length ≤ s.length
  | 0, s, l, g, r, h => by simp only [recs, Option.some.injEq, Prod.mk.injEq] at h; obtain ⟨rfl, -, rfl⟩ := h; exact ⟨rfl, Nat.le_refl _⟩
  | n + 1, s, l, g, r, h => by
    simp only [recs] at h
    split at h
    · cases h
    split at h
    · cases h
    split at h
    · cases h
    · rename_i l' g' r' e
      cases h
      obtain ⟨h1, h2⟩ := recs_len e
      exact ⟨by simp [h1], by rw [List.length_drop] at h2; omega⟩
theorem rdn_ok {s : List UInt8} {k : Nat} (h0 : 1 ≤ k) (h7 : k ≤ 7) (h : k ≤ s.length) : rdn ⟨s, true, false⟩ (k : Int) = ((valL (s.take k) : Nat) : Int) := by
  unfold rdn
  rw [if_neg (by omega), rdt_ok (by omega) (by omega), Int.toNat_natCast]
theorem rdr_bd (s : List UInt8) (m : Bool) (k : Int) : rdr ⟨s, m, true⟩ k = ⟨s, true, true⟩ := by unfold rdr; rw [if_pos (.inl rfl)]
theorem rdr_short {s : List UInt8} {k : Int} (h : k > s.length) : rdr ⟨s, true, false⟩ k = ⟨s, true, true⟩ := by unfold rdr; rw [if_pos (.inr (.inr h))]
def bkd (r : octet_Reader) : api_Backend × Bool × octet_Reader :=
  let r1 := rdr r 2; let r2 := rdr r1 2; let r3 := rdr r2 1; let r4 := rdr r3 1
  (⟨rdn r 2, rdn r1 2, rdn r2 1, (addrG (rdt r4 (rdn r3 1))).1⟩, (addrG (rdt r4 (rdn r3 1))).2, rdr r4 (rdn r3 1))
theorem rdr_le (r : octet_Reader) (k : Int) : (rdr r k).s.length ≤ r.s.length := by unfold rdr; split <;> simp
theorem pbackend_eq {r : octet_Reader} (h : r.made = true) (hl : r.s.length < 2 ^ 40) : saved_backend r = some (bkd r) := by
  unfold saved_backend saved_backendF bkd
  have l1 := rdr_le r 2; have l2 := rdr_le (rdr r 2) 2; have l3 := rdr_le (rdr (rdr r 2) 2) 1; have l4 := rdr_le (rdr (rdr (rdr r 2) 2) 1) 1
  rw [rNum_eq h (by omega), Option.bind_some, if_neg (by decide)]
  simp only []
  rw [rNum_eq (rdr_made _ _) (by omega), Option.bind_some, if_neg (by decide)]
  simp only []
  rw [rNum_eq (rdr_made _ _) (by omega), Option.bind_some, if_neg (by decide)]
  simp only []
  rw [rNum_eq (rdr_made _ _) (by omega), Option.bind_some, if_neg (by decide)]
  simp only []
  rw [rText_eq (rdr_made _ _), Option.bind_some]
  simp only []
  rw [paget_eq (by have := rdt_len (rdr (rdr (rdr (rdr r 2) 2) 1) 1) (rdn (rdr (rdr (rdr r 2) 2) 1) 1); omega), Option.bind_some]
theorem bkd_bad (s : List UInt8) : (bkd ⟨s, true, true⟩).2.2 = ⟨s, true, true⟩ := by
  unfold bkd; simp only [rdr_bd]
theorem bkd_short {s : List UInt8} (h : s.length < 6 ∨ s.length < 6 + alen s) : ∃ s', (bkd ⟨s, true, false⟩).2.2 = ⟨s', true, true⟩ ∧ s'.length ≤ s.length := by
  unfold bkd
  simp only []
  by_cases h2 : s.length < 2
  · rw [rdr_short (by omega)]; simp only [rdr_bd]; exact ⟨_, rfl, Nat.le_refl _⟩
  rw [rdr_ok (by omega) (by omega)]
  have e1 : (2 : Int).toNat = 2 := rfl
  have e2 : (1 : Int).toNat = 1 := rfl
  by_cases h4 : s.length < 4
  · rw [e1, rdr_short (s := s.drop 2) (by rw [List.length_drop]; omega)]; simp only [rdr_bd]; exact ⟨_, rfl, by simp⟩
  rw [e1, rdr_ok (s := s.drop 2) (by omega) (by rw [List.length_drop]; omega), e1, List.drop_drop]
  by_cases h5 : s.length < 5
  · rw [rdr_short (s := s.drop (2 + 2)) (by rw [List.length_drop]; omega)]; simp only [rdr_bd]; exact ⟨_, rfl, by simp⟩
  rw [rdr_ok (s := s.drop (2 + 2)) (by omega) (by rw [List.length_drop]; omega), e2, List.drop_drop]
  by_cases h6 : s.length < 6
  · rw [rdr_short (s := s.drop (2 + 2 + 1)) (by rw [List.length_drop]; omega)]; simp only [rdr_bd]; exact ⟨_, rfl, by simp⟩
  rw [rdr_ok (s := s.drop (2 + 2 + 1)) (by omega) (by rw [List.length_drop]; omega), e2, List.drop_drop]
  rw [show rdn ⟨s.drop (2 + 2 + 1), true, false⟩ 1 = ((alen s : Nat) : Int) from rdn_ok (k := 1) (by decide) (by decide) (by rw [List.length_drop]; omega)]
  rw [rdr_short (s := s.drop (2 + 2 + 1 + 1)) (by rw [List.length_drop]; omega)]
  exact ⟨_, rfl, by simp⟩
theorem bkd_ok {s : List UInt8} (h : 6 + alen s ≤ s.length) : bkd ⟨s, true, false⟩ = (rec1 s, (addrG (adrS s)).2, ⟨s.drop (6 + alen s), true, false⟩) := by
  unfold bkd
  have e1 : (2 : Int).toNat = 2 := rfl
  have e2 : (1 : Int).toNat = 1 := rfl
  simp only []
  rw [rdr_ok (s := s) (by omega) (by omega), e1, rdr_ok (s := s.drop 2) (by omega) (by rw [List.length_drop]; omega), e1, List.drop_drop, rdr_ok (s := s.drop (2 + 2)) (by omega) (by rw [List.length_drop]; omega), e2, List.drop_drop,
    rdr_ok (s := s.drop (2 + 2 + 1)) (by omega) (by rw [List.length_drop]; omega), e2, List.drop_drop]
  rw [show rdn ⟨s.drop (2 + 2 + 1), true, false⟩ 1 = ((alen s : Nat) : Int) from rdn_ok (k := 1) (by decide) (by decide) (by rw [List.length_drop]; omega)]
  rw [show rdn ⟨s.drop (2 + 2), true, false⟩ 1 = _ from rdn_ok (k := 1) (by decide) (by decide) (by rw [List.length_drop]; omega), show rdn ⟨s.drop 2, true, false⟩ 2 = _ from rdn_ok (k := 2) (by decide) (by decide) (by rw [List.length_drop]; omega), show rdn ⟨s, true, false⟩ 2 = _ from rdn_ok (k := 2) (by decide) (by decide) (by omega)]
  rw [rdt_ok (s := s.drop (2 + 2 + 1 + 1)) (by omega) (by rw [List.length_drop]; omega), rdr_ok (s := s.drop (2 + 2 + 1 + 1)) (by omega) (by rw [List.length_drop]; omega), Int.toNat_natCast, List.drop_drop]
  rfl
def zeroR : saved_Record := ⟨⟨0, 0⟩, 0, []⟩
def finG (A B last : Int) (o : Option (List api_Backend × Bool × List UInt8)) (c : List api_Backend) (g : Bool) : saved_Record × Int :=
  match o with
  | none => (zeroR, 2)
  | some (l, g', r) => if r ≠ [] ∨ (g && g') = false then (zeroR, 3) else if rightB ⟨⟨A, B⟩, last, c ++ l⟩ = true then (⟨⟨A, B⟩, last, c ++ l⟩, 0) else (zeroR, 1)
theorem prest_eq {r : octet_Reader} (h : r.made = true) (hb : r.bad = false) : octet_Reader_Rest r = some (r.s, rdr r (r.s.length : Int)) := by
  unfold octet_Reader_Rest octet_Reader_RestF
  rw [rBad_eq h, Option.bind_some, hb]
  simp only [cond_false]
  rw [rText_eq h, Option.bind_some]
  obtain ⟨s, m, b⟩ := r
  simp only at h hb
  subst h; subst hb
  rw [rdt_ok (by omega) (by simp only []; omega), Int.toNat_natCast, List.take_of_length_le (Nat.le_refl _)]
theorem pget_end {xg xg1 : Int × Bool} {n1 n2 : Int × octet_Reader} {good : Bool} {i : Int} {s : List UInt8} {b : Bool} {c : List api_Backend} (hi : ¬ i < n2.1) :
    saved_Get_s1 octet_Reader_Bad octet_Reader_Rest saved_Right saved_backend xg xg1 n1 n2 good i s true b c = some (.inr (if b = true then (zeroR, 2) else finG xg.1 xg1.1 n1.1 (some ([], true, s)) c good)) := by
  unfold saved_Get_s1
  rw [cond_n hi, rBad_eq rfl, Option.bind_some]
  cases b with
  | true => rfl
  | false =>
    simp only [cond_false]
    rw [prest_eq rfl rfl, Option.bind_some]
    unfold finG
    simp only [Bool.and_true, List.append_nil]
    by_cases hs : s = []
    · rw [show (s == []) = true from by simp [hs]]
      cases good with
      | false => simp [zeroR]
      | true =>
        simp only [Bool.not_true, cond_false]
        rw [pright_eq, Option.bind_some]
        cases hR : rightB ⟨⟨xg.1, xg1.1⟩, n1.1, c⟩ <;> simp [hs, zeroR]
    · rw [show (s == []) = false from by simpa using hs]
      simp [hs, zeroR]
theorem pget_bad {xg xg1 : Int × Bool} {n1 n2 : Int × octet_Reader} (hn : n2.1 < 256) {s : List UInt8} (hs : s.length < 2 ^ 40) : ∀ (d : Nat) (i : Int) (n : Nat) (good : Bool) (c : List api_Backend), 0 ≤ i → i + d = n2.1 → d < n → c.length ≤ i →
    iter (fun st => saved_Get_s1 octet_Reader_Bad octet_Reader_Rest saved_Right saved_backend xg xg1 n1 n2 st.1 st.2.1 st.2.2.1 st.2.2.2.1 st.2.2.2.2.1 st.2.2.2.2.2) n (good, i, s, true, true, c) = some (zeroR, 2)
  | 0, i, n, good, c, h0, he, hd, hc => by
    obtain ⟨m, rfl⟩ : ∃ m, n = m + 1 := ⟨n - 1, by omega⟩
    rw [iter]
    simp only []
    rw [pget_end (by omega), if_pos rfl]
  | d + 1, i, n, good, c, h0, he, hd, hc => by
    obtain ⟨m, rfl⟩ : ∃ m, n = m + 1 := ⟨n - 1, by omega⟩
    rw [iter]
    simp only []
    unfold saved_Get_s1
    rw [cond_p (by omega), pbackend_eq rfl hs, Option.bind_some, bkd_bad]
    cases good
    · simp only [cond_true, cond_false]; rw [oreq_p (by omega), wI64 (by omega) (by omega)]
      exact pget_bad (xg := xg) (xg1 := xg1) (n1 := n1) hn hs d (i + 1) m false (c ++ [(bkd ⟨s, true, true⟩).1]) (by omega) (by omega) (by omega) (by simp; omega)
    · simp only [cond_true, cond_false]; rw [oreq_p (by omega), wI64 (by omega) (by omega)]
      exact pget_bad (xg := xg) (xg1 := xg1) (n1 := n1) hn hs d (i + 1) m (bkd ⟨s, true, true⟩).2.1 (c ++ [(bkd ⟨s, true, true⟩).1]) (by omega) (by omega) (by omega) (by simp; omega)
theorem pget_loop {xg xg1 : Int × Bool} {n1 n2 : Int × octet_Reader} (hn : n2.1 < 256) : ∀ (d : Nat) (i : Int) (n : Nat) (good : Bool) (c : List api_Backend) (s : List UInt8), 0 ≤ i → i + d = n2.1 → d < n → c.length ≤ i → s.length < 2 ^ 40 →
    iter (fun st => saved_Get_s1 octet_Reader_Bad octet_Reader_Rest saved_Right saved_backend xg xg1 n1 n2 st.1 st.2.1 st.2.2.1 st.2.2.2.1 st.2.2.2.2.1 st.2.2.2.2.2) n (good, i, s, true, false, c) = some (finG xg.1 xg1.1 n1.1 (recs d s) c good)
  | 0, i, n, good, c, s, h0, he, hd, hc, hs => by
    obtain ⟨m, rfl⟩ : ∃ m, n = m + 1 := ⟨n - 1, by omega⟩
    rw [iter]
    simp only []
    rw [pget_end (by omega), if_neg (by decide)]; rfl
  | d + 1, i, n, good, c, s, h0, he, hd, hc, hs => by
    obtain ⟨m, rfl⟩ : ∃ m, n = m + 1 := ⟨n - 1, by omega⟩
    rw [iter]
    simp only []
    unfold saved_Get_s1
    rw [cond_p (by omega), pbackend_eq rfl hs, Option.bind_some]
    by_cases hsh : s.length < 6 ∨ s.length < 6 + alen s
    · obtain ⟨s', e, hl⟩ := bkd_short hsh
      have hrec : recs (d + 1) s = none := by
        simp only [recs]
        rcases hsh with h | h
        · rw [if_pos h]
        · by_cases h6 : s.length < 6
          · rw [if_pos h6]
          · rw [if_neg h6, if_pos h]
      rw [e, hrec]
      cases good
      · simp only [cond_true, cond_false]; rw [oreq_p (by omega), wI64 (by omega) (by omega)]
        exact pget_bad (xg := xg) (xg1 := xg1) (n1 := n1) hn (by omega) d (i + 1) m false (c ++ [(bkd ⟨s, true, false⟩).1]) (by omega) (by omega) (by omega) (by simp; omega)
      · simp only [cond_true, cond_false]; rw [oreq_p (by omega), wI64 (by omega) (by omega)]
        exact pget_bad (xg := xg) (xg1 := xg1) (n1 := n1) hn (by omega) d (i + 1) m (bkd ⟨s, true, false⟩).2.1 (c ++ [(bkd ⟨s, true, false⟩).1]) (by omega) (by omega) (by omega) (by simp; omega)
    · rw [bkd_ok (by omega)]
      have hrec : recs (d + 1) s = match recs d (s.drop (6 + alen s)) with | none => none | some (l, g, r) => some (rec1 s :: l, (addrG (adrS s)).2 && g, r) := by
        simp only [recs]; rw [if_neg (by omega), if_neg (by omega)]
      have fin : ∀ g : Bool, finG xg.1 xg1.1 n1.1 (recs d (s.drop (6 + alen s))) (c ++ [rec1 s]) (g && (addrG (adrS s)).2) = finG xg.1 xg1.1 n1.1 (recs (d + 1) s) c g := by
        intro g
        rw [hrec]
        cases recs d (s.drop (6 + alen s)) with
        | none => rfl
        | some q =>
          obtain ⟨l, g', r⟩ := q
          unfold finG
          simp only [Bool.and_assoc, List.append_assoc, List.singleton_append]
      cases good
      · simp only [cond_true, cond_false]; rw [oreq_p (by omega), wI64 (by omega) (by omega)]
        have := pget_loop (xg := xg) (xg1 := xg1) (n1 := n1) hn d (i + 1) m false (c ++ [rec1 s]) (s.drop (6 + alen s)) (by omega) (by omega) (by omega) (by simp; omega) (by rw [List.length_drop]; omega)
        rw [show finG xg.1 xg1.1 n1.1 (recs d (s.drop (6 + alen s))) (c ++ [rec1 s]) false = _ from fin false] at this
        exact this
      · simp only [cond_true, cond_false]; rw [oreq_p (by omega), wI64 (by omega) (by omega)]
        have := pget_loop (xg := xg) (xg1 := xg1) (n1 := n1) hn d (i + 1) m (addrG (adrS s)).2 (c ++ [rec1 s]) (s.drop (6 + alen s)) (by omega) (by omega) (by omega) (by simp; omega) (by rw [List.length_drop]; omega)
        have f := fin true
        rw [Bool.true_and] at f
        rw [f] at this
        exact this
def getR (s : List UInt8) : saved_Record × Int :=
  if s.length < 31 then (zeroR, 2) else
  if s.take 4 ≠ [67, 76, 75, 49] then (zeroR, 3) else
  if sealS (s.take (s.length - 8)) ≠ s.drop (s.length - 8) then (zeroR, 4) else
  finG ((valL ((s.drop 4).take 8) : Nat) : Int) ((valL ((s.drop 12).take 8) : Nat) : Int) ((valL ((s.drop 20).take 2) : Nat) : Int) (recs (valL ((s.drop 22).take 1)) ((s.take (s.length - 8)).drop 23)) [] true
theorem take_in {s : List UInt8} {a n m : Nat} (h : a + n ≤ m) : ((s.take m).drop a).take n = (s.drop a).take n := by
  rw [List.drop_take, List.take_take, Nat.min_eq_left (by omega)]
theorem pgetR_eq {s : List UInt8} (h : s.length < 2 ^ 30) : saved_Get s = some (getR s) := by
  unfold saved_Get saved_GetF getR
  by_cases h1 : (s.length : Int) < 31
  · rw [cond_p h1, if_pos (by omega)]; rfl
  rw [cond_n h1, if_neg (by omega), wI64 (by omega) (by omega), oreq_p (by omega), oreq_p (by omega)]
  have en : ((s.length : Int) - 8).toNat = s.length - 8 := by omega
  simp only [en]
  have e8 : (s.drop (s.length - 8)).take (s.length - (s.length - 8)) = s.drop (s.length - 8) := List.take_of_length_le (by rw [List.length_drop]; exact Nat.le_refl _)
  have hbl : (s.take (s.length - 8)).length = s.length - 8 := by rw [List.length_take]; omega
  rw [e8]
  obtain ⟨bd, hbd⟩ : ∃ bd, s.take (s.length - 8) = bd := ⟨_, rfl⟩
  have tk : ∀ a n, a + n ≤ 23 → (bd.drop a).take n = (s.drop a).take n := fun a n hh => by rw [← hbd]; exact take_in (by omega)
  rw [hbd] at hbl ⊢
  rw [rNew_eq, Option.bind_some, rText_eq rfl, Option.bind_some, rdt_ok (s := bd) (by omega) (by omega), rdr_ok (s := bd) (by omega) (by omega)]
  simp only [show (4 : Int).toNat = 4 from rfl]
  have t4 := tk 0 4 (by omega)
  rw [List.drop_zero, List.drop_zero] at t4
  rw [t4]
  by_cases h3 : s.take 4 = [67, 76, 75, 49]
  · rw [show (s.take 4 == [67, 76, 75, 49]) = true from by rw [beq_iff_eq]; exact h3, if_neg (by simpa using h3)]
    simp only [Bool.not_true, cond_false]
    rw [pseal_eq (by omega), Option.bind_some]
    by_cases h4 : sealS bd = s.drop (s.length - 8)
    · rw [show (sealS bd == s.drop (s.length - 8)) = true from by rw [beq_iff_eq]; exact h4, if_neg (by simpa using h4)]
      simp only [Bool.not_true, cond_false]
      have e8' : (8 : Int).toNat = 8 := rfl
      have e2' : (2 : Int).toNat = 2 := rfl
      have e1' : (1 : Int).toNat = 1 := rfl
      rw [rText_eq rfl, Option.bind_some, rdt_ok (s := bd.drop 4) (by omega) (by rw [List.length_drop]; omega), rdr_ok (s := bd.drop 4) (by omega) (by rw [List.length_drop]; omega)]
      simp only [e8', List.drop_drop]
      rw [octet_Get_eq (by rw [List.length_take]; omega), Option.bind_some, show getS ((bd.drop 4).take 8) 0 8 = _ from getS_all (k := 8) (by decide) (by decide) (by rw [List.length_take, List.length_drop]; omega)]
      rw [rText_eq rfl, Option.bind_some, rdt_ok (s := bd.drop (4 + 8)) (by omega) (by rw [List.length_drop]; omega), rdr_ok (s := bd.drop (4 + 8)) (by omega) (by rw [List.length_drop]; omega)]
      simp only [e8', List.drop_drop]
      rw [octet_Get_eq (by rw [List.length_take]; omega), Option.bind_some, show getS ((bd.drop (4 + 8)).take 8) 0 8 = _ from getS_all (k := 8) (by decide) (by decide) (by rw [List.length_take, List.length_drop]; omega)]
      rw [rNum_eq rfl (by simp only [List.length_drop]; omega), Option.bind_some, if_neg (by decide), show rdn ⟨bd.drop (4 + 8 + 8), true, false⟩ 2 = _ from rdn_ok (k := 2) (by decide) (by decide) (by rw [List.length_drop]; omega), rdr_ok (s := bd.drop (4 + 8 + 8)) (by omega) (by rw [List.length_drop]; omega)]
      simp only [e2', List.drop_drop]
      rw [rNum_eq rfl (by simp only [List.length_drop]; omega), Option.bind_some, if_neg (by decide), show rdn ⟨bd.drop (4 + 8 + 8 + 2), true, false⟩ 1 = _ from rdn_ok (k := 1) (by decide) (by decide) (by rw [List.length_drop]; omega), rdr_ok (s := bd.drop (4 + 8 + 8 + 2)) (by omega) (by rw [List.length_drop]; omega)]
      simp only [e1', List.drop_drop]
      have hv : valL ((bd.drop (4 + 8 + 8 + 2)).take 1) < 256 := val_take_lt _ (by decide)
      rw [show (4 + 8 : Nat) = 12 from rfl, show (12 + 8 : Nat) = 20 from rfl, show (20 + 2 : Nat) = 22 from rfl, show (22 + 1 : Nat) = 23 from rfl] at *
      rw [tk 4 8 (by omega), tk 12 8 (by omega), tk 20 2 (by omega), tk 22 1 (by omega)] at *
      exact pget_loop (by simp only []; omega) (valL ((s.drop 22).take 1)) 0 FUEL true [] (bd.drop 23) (by omega) (by simp only []; omega) (by rw [FUEL_eq]; omega) (by simp) (by rw [List.length_drop]; omega)
    · rw [show (sealS bd == s.drop (s.length - 8)) = false from by rw [beq_eq_false_iff_ne]; exact h4, if_pos h4]; rfl
  · rw [show (s.take 4 == [67, 76, 75, 49]) = false from by rw [beq_eq_false_iff_ne]; exact h3, if_pos h3]; rfl
theorem one_at {s : List UInt8} {k : Nat} {b : UInt8} (h : s[k]? = some b) : valL ((s.drop k).take 1) = b.toNat := by
  obtain ⟨hk, e⟩ := List.getElem?_eq_some_iff.1 h
  have : (s.drop k).take 1 = [b] := by
    rw [List.drop_eq_getElem_cons hk, e]; rfl
  rw [this]; simp [valL]
theorem must_at {s : List UInt8} {p : Nat} (h : p + 2 ≤ s.length) (hs : s.length < 2 ^ 40) : R02_Must s (p : Int) 2 = some ((valL ((s.drop p).take 2) : Nat) : Int) := by
  rw [R02_Must_eq (by omega), getS_at (by omega) (by omega) (by omega) (by omega)]
  simp only [Int.toNat_natCast, show (2 : Int).toNat = 2 from rfl]
  have : valL ((s.drop p).take 2) < 65536 := val_take_lt _ (by decide)
  rw [wI64 (by omega) (by omega)]
theorem rget_step {t : List UInt8} (ht : t.length < 2 ^ 30) {xg xg1 : Int × Bool} {m : Int} {b : UInt8} (hb : t[22]? = some b) {i xat : Nat} {bad : Bool} {c : List api_Backend} (he : i < b.toNat) (hc : c.length ≤ i) (hx : xat ≤ t.length) {s : List UInt8} (hs : t.drop xat = s) :
    R55_Get_s1 R02_Must R04_Get R55_Right t xg xg1 m xat bad i c = if s.length < 6 ∨ s.length < 6 + alen s then some (.inr (zeroR, 2)) else some (.inl (((xat + (6 + alen s) : Nat) : Int), bad || !(addrG (adrS s)).2, ((i + 1 : Nat) : Int), c ++ [rec1 s])) := by
  have hb8 := UInt8.toNat_lt b
  unfold R55_Get_s1
  rw [hb, Option.bind_some, wI64 (n := (b.toNat : Int)) (by omega) (by omega), cond_p (by omega)]
  have hsl : s.length = t.length - xat := by rw [← hs, List.length_drop]
  rw [wI64 (n := (t.length : Int) - xat) (by omega) (by omega), wI64 (n := (t.length : Int) - xat - 6) (by omega) (by omega), wI64 (n := (xat : Int) + 5) (by omega) (by omega), wI64 (n := (xat : Int) + 6) (by omega) (by omega), wI64 (n := (xat : Int) + 2) (by omega) (by omega), wI64 (n := (xat : Int) + 4) (by omega) (by omega)]
  by_cases h6 : s.length < 6
  · simp only []
    rw [cond_p (by omega), if_pos (.inl h6)]; rfl
  · simp only []
    rw [cond_n (by omega), oreq_p (by omega)]
    have h5 : xat + 5 < t.length := by omega
    have e5 : ((xat : Int) + 5).toNat = xat + 5 := by omega
    have hg5 : t[xat + 5]? = some t[xat + 5] := List.getElem?_eq_getElem h5
    have ha : alen s = (t[xat + 5]).toNat := by
      unfold alen
      refine one_at ?_
      rw [← hs, List.getElem?_drop]; exact hg5
    rw [e5, hg5, Option.bind_some]
    generalize t[xat + 5] = y at ha hg5
    have hy8 := UInt8.toNat_lt y
    rw [wI64 (n := (y.toNat : Int)) (by omega) (by omega)]
    by_cases hsh : s.length < 6 + alen s
    · rw [cond_p (by omega), if_pos (.inr hsh)]; rfl
    · rw [cond_n (by omega), oreq_p (by omega), Option.bind_some]
      rw [wI64 (n := (y.toNat : Int)) (by omega) (by omega), wI64 (n := (xat : Int) + 6 + (y.toNat : Int)) (by omega) (by omega), oreq_p (by omega)]
      have e6 : ((xat : Int) + 6).toNat = xat + 6 := by omega
      have e7 : ((xat : Int) + 6 + (y.toNat : Int)).toNat - ((xat : Int) + 6).toNat = alen s := by omega
      rw [e7, e6]
      have eadr : (t.drop (xat + 6)).take (alen s) = adrS s := by
        unfold adrS; rw [← hs, List.drop_drop]
      have h4 : xat + 4 < t.length := by omega
      have e4 : ((xat : Int) + 4).toNat = xat + 4 := by omega
      have hg4 : t[xat + 4]? = some t[xat + 4] := List.getElem?_eq_getElem h4
      have hz : valL ((s.drop 4).take 1) = (t[xat + 4]).toNat := one_at (by rw [← hs, List.getElem?_drop]; exact hg4)
      have hz8 := UInt8.toNat_lt t[xat + 4]
      have m1 := must_at (s := t) (p := xat) (by omega) (by omega)
      have m2 := must_at (s := t) (p := xat + 2) (by omega) (by omega)
      rw [show ((xat + 2 : Nat) : Int) = (xat : Int) + 2 by omega] at m2
      rw [eadr, raget_eq (by unfold adrS; rw [List.length_take]; omega), Option.bind_some, m1, m2]
      simp only [Option.bind_some]
      rw [oreq_p (by omega), e4, hg4]
      simp only [Option.bind_some]
      rw [wI64 (n := ((t[xat + 4]).toNat : Int)) (by omega) (by omega), wI64 (n := (i : Int) + 1) (by omega) (by omega)]
      have er : api_Backend.mk ((valL ((t.drop xat).take 2) : Nat) : Int) ((valL ((t.drop (xat + 2)).take 2) : Nat) : Int) ((t[xat + 4]).toNat : Int) (addrG (adrS s)).1 = rec1 s := by
        unfold rec1
        rw [hz, ← hs, List.drop_drop]
      rw [er, oreq_p (by omega), oreq_p (by omega), if_neg (fun q => q.elim h6 hsh)]
      have ex : (xat : Int) + 6 + (y.toNat : Int) = ((xat + (6 + alen s) : Nat) : Int) := by omega
      have ei : (i : Int) + 1 = ((i + 1 : Nat) : Int) := by omega
      rw [ex, ei]
      cases bad
      · simp only [cond_false]
        rw [oreq_p (by omega)]; rfl
      · rfl
theorem rget_end {t : List UInt8} (ht : t.length < 2 ^ 30) {xg xg1 : Int × Bool} {m : Int} {b : UInt8} (hb : t[22]? = some b) {i xat : Nat} {bad : Bool} {c : List api_Backend} (he : i = b.toNat) (hx : xat ≤ t.length) :
    R55_Get_s1 R02_Must R04_Get R55_Right t xg xg1 m xat bad i c = some (.inr (finG xg.1 xg1.1 m (recs 0 (t.drop xat)) c (!bad))) := by
  have hb8 := UInt8.toNat_lt b
  unfold R55_Get_s1
  rw [hb, Option.bind_some, wI64 (n := (b.toNat : Int)) (by omega) (by omega), cond_n (by omega)]
  unfold finG
  simp only [recs, Bool.and_true, List.append_nil]
  by_cases hxl : xat = t.length
  · have hn : t.drop xat = [] := by rw [hxl]; simp
    rw [show ((xat : Int) != (t.length : Int)) = false from by rw [bne_eq_false_iff_eq]; omega, cond_false, hn]
    cases bad with
    | true => simp [zeroR]
    | false =>
      simp only [cond_false]
      rw [rright55_eq, Option.bind_some]
      cases hR : rightB ⟨⟨xg.1, xg1.1⟩, m, c⟩ <;> simp [zeroR]
  · have hn : t.drop xat ≠ [] := by
      intro h
      have := congrArg List.length h
      rw [List.length_drop] at this; simp at this; omega
    rw [show ((xat : Int) != (t.length : Int)) = true from by rw [bne_iff_ne]; omega, cond_true, if_pos (.inl hn)]; rfl
theorem rget_loop {t : List UInt8} (ht : t.length < 2 ^ 30) {xg xg1 : Int × Bool} {m : Int} {b : UInt8} (hb : t[22]? = some b) : ∀ (d i n : Nat) (bad : Bool) (c : List api_Backend) (xat : Nat), i + d = b.toNat → d < n → c.length ≤ i → xat ≤ t.length →
    iter (fun st => R55_Get_s1 R02_Must R04_Get R55_Right t xg xg1 m st.1 st.2.1 st.2.2.1 st.2.2.2) n ((xat : Int), bad, (i : Int), c) = some (finG xg.1 xg1.1 m (recs d (t.drop xat)) c (!bad))
  | 0, i, n, bad, c, xat, he, hd, hc, hx => by
    obtain ⟨k, rfl⟩ : ∃ k, n = k + 1 := ⟨n - 1, by omega⟩
    rw [iter]
    simp only []
    rw [rget_end ht hb (by omega) hx]
  | d + 1, i, n, bad, c, xat, he, hd, hc, hx => by
    obtain ⟨k, rfl⟩ : ∃ k, n = k + 1 := ⟨n - 1, by omega⟩
    obtain ⟨s, hs⟩ : ∃ s, t.drop xat = s := ⟨_, rfl⟩
    have hsl : s.length = t.length - xat := by rw [← hs, List.length_drop]
    rw [iter]
    simp only []
    rw [rget_step ht hb (by omega) hc hx hs, hs]
    by_cases hsh : s.length < 6 ∨ s.length < 6 + alen s
    · have hrec : recs (d + 1) s = none := by
        simp only [recs]
        rcases hsh with h | h
        · rw [if_pos h]
        · by_cases h6 : s.length < 6
          · rw [if_pos h6]
          · rw [if_neg h6, if_pos h]
      rw [if_pos hsh, hrec]; rfl
    · have hrec : recs (d + 1) s = match recs d (s.drop (6 + alen s)) with | none => none | some (l, g, r) => some (rec1 s :: l, (addrG (adrS s)).2 && g, r) := by
        simp only [recs]; rw [if_neg (by omega), if_neg (by omega)]; try rfl
      rw [if_neg hsh]
      simp only []
      rw [rget_loop ht hb d (i + 1) k (bad || !(addrG (adrS s)).2) (c ++ [rec1 s]) (xat + (6 + alen s)) (by omega) (by omega) (by simp; omega) (by omega), ← List.drop_drop, hs, hrec]
      cases recs d (s.drop (6 + alen s)) with
      | none => rfl
      | some q =>
        obtain ⟨l, g', r⟩ := q
        unfold finG
        simp only [Bool.not_or, Bool.not_not, Bool.and_assoc, List.append_assoc, List.singleton_append]
theorem rgetR_eq {s : List UInt8} (h : s.length < 2 ^ 30) : R55_Get s = some (getR s) := by
  unfold R55_Get R55_GetF getR
  by_cases h1 : (s.length : Int) < 31
  · rw [cond_p h1, if_pos (by omega)]; rfl
  rw [cond_n h1, if_neg (by omega), wI64 (n := (s.length : Int) - 8) (by omega) (by omega), oreq_p (by omega), oreq_p (by omega)]
  have en : ((s.length : Int) - 8).toNat = s.length - 8 := by omega
  simp only [en]
  by_cases h3 : s.take 4 = [67, 76, 75, 49]
  · rw [show (s.take 4 == [67, 76, 75, 49]) = true from by rw [beq_iff_eq]; exact h3, if_neg (by simpa using h3)]
    simp only [Bool.not_true, cond_false]
    have e8 : (s.drop (s.length - 8)).take (s.length - (s.length - 8)) = s.drop (s.length - 8) := List.take_of_length_le (by rw [List.length_drop]; exact Nat.le_refl _)
    have hbl : (s.take (s.length - 8)).length = s.length - 8 := by rw [List.length_take]; omega
    obtain ⟨bd, hbd⟩ : ∃ bd, s.take (s.length - 8) = bd := ⟨_, rfl⟩
    have tk : ∀ a n, a + n ≤ 23 → (bd.drop a).take n = (s.drop a).take n := fun a n hh => by rw [← hbd]; exact take_in (by omega)
    rw [hbd] at hbl ⊢
    rw [rseal_eq (by omega), Option.bind_some, oreq_p (by omega), e8]
    by_cases h4 : sealS bd = s.drop (s.length - 8)
    · rw [show (sealS bd == s.drop (s.length - 8)) = true from by rw [beq_iff_eq]; exact h4, if_neg (by simpa using h4)]
      simp only [Bool.not_true, cond_false]
      rw [R02_Get_eq (by omega), Option.bind_some, R02_Get_eq (by omega), Option.bind_some, show R02_Must bd 20 2 = _ from must_at (p := 20) (by omega) (by omega), Option.bind_some, getS_at (by omega) (by omega) (by omega) (by omega), getS_at (by omega) (by omega) (by omega) (by omega)]
      simp only [show (4 : Int).toNat = 4 from rfl, show (12 : Int).toNat = 12 from rfl, show (8 : Int).toNat = 8 from rfl]
      have hb : bd[22]? = some bd[22] := List.getElem?_eq_getElem (by omega)
      have hv := one_at hb
      rw [tk 4 8 (by omega), tk 12 8 (by omega), tk 20 2 (by omega)]
      rw [tk 22 1 (by omega)] at hv
      have := rget_loop (t := bd) (by omega) (xg := (((valL ((s.drop 4).take 8) : Nat) : Int), true)) (xg1 := (((valL ((s.drop 12).take 8) : Nat) : Int), true)) (m := ((valL ((s.drop 20).take 2) : Nat) : Int)) hb (bd[22]).toNat 0 FUEL false [] 23 (by omega) (by rw [FUEL_eq]; have := UInt8.toNat_lt bd[22]; omega) (by simp) (by omega)
      rw [hv]
      exact this
    · rw [show (sealS bd == s.drop (s.length - 8)) = false from by rw [beq_eq_false_iff_ne]; exact h4, if_pos h4]; rfl
  · rw [show (s.take 4 == [67, 76, 75, 49]) = false from by rw [beq_eq_false_iff_ne]; exact h3, if_pos h3]; rfl
def ofB (b : api_Backend) : api_Backend := if b.State = 3 then b else ⟨b.ID, b.Weight, 1, b.Addr⟩
def ofL (l : List api_Backend) : List api_Backend := (l.filter fun b => !decide (b.State = 4)).map ofB
theorem scan_of {ρ : Type} (fin : List api_Backend → ρ) : ∀ (l c : List api_Backend), scan (fun b c => (.inl (if b.State = 4 then c else c ++ [ofB b]) : Sum (List api_Backend) ρ)) fin l c = fin (c ++ ofL l)
  | [], c => by simp [scan, ofL]
  | b :: l, c => by
    rw [scan]; simp only []; rw [scan_of fin l]
    by_cases h : b.State = 4 <;> simp [ofL, h]
theorem pof_eq {k : api_Key} {last : Int} {l : List api_Backend} (hl : l.length < 2 ^ 30) : saved_Of k last l = some ⟨k, last, ofL l⟩ := by
  unfold saved_Of saved_OfF
  have e0 := iter_scan0 l (fun b c => (.inl (if b.State = 4 then c else c ++ [ofB b]) : Sum (List api_Backend) saved_Record)) (fun c => saved_Record.mk k last c) (fun i (c : List api_Backend) => ((i : Int), c)) (fun st => saved_Of_s1 k last l st.1 st.2) (fun i c => c.length ≤ i) (s := []) ?_ ?_ (by omega) (by simp) rfl
  · rw [scan_of] at e0; exact e0
  · intro i c hi hc
    dsimp only
    refine ⟨fun s' e => ?_, fun q e => (by cases e)⟩
    cases e
    refine ⟨?_, by split <;> (try simp) <;> omega⟩
    unfold saved_Of_s1
    rw [cond_p (by omega), oreq_p (by omega), Int.toNat_natCast, List.getElem?_eq_getElem hi, Option.bind_some, wI64 (by omega) (by omega)]
    generalize l[i] = b
    by_cases h4 : b.State = 4
    · rw [show (b.State == 4) = true from by simpa using h4, cond_true, if_pos h4]; rfl
    · rw [show (b.State == 4) = false from by simpa using h4, cond_false, if_neg h4, oreq_p (by omega), oreq_p (by omega)]
      unfold ofB
      by_cases h3 : b.State = 3
      · rw [show (b.State == 3) = true from by simpa using h3, if_pos h3]; rfl
      · rw [show (b.State == 3) = false from by simpa using h3, if_neg h3]; rfl
  · intro c _
    dsimp only
    unfold saved_Of_s1
    rw [cond_n (by omega)]
theorem rof_eq {k : api_Key} {last : Int} {l : List api_Backend} (hl : l.length < 2 ^ 30) : R55_Of k last l = some ⟨k, last, ofL l⟩ := by
  unfold R55_Of R55_OfF
  have e0 := iter_scan0 l (fun b c => (.inl (if b.State = 4 then c else c ++ [ofB b]) : Sum (List api_Backend) saved_Record)) (fun c => saved_Record.mk k last c) (fun i (c : List api_Backend) => ((i : Int), c)) (fun st => R55_Of_s1 k last l st.1 st.2) (fun i c => c.length ≤ i) (s := []) ?_ ?_ (by omega) (by simp) rfl
  · rw [scan_of] at e0; exact e0
  · intro i c hi hc
    dsimp only
    refine ⟨fun s' e => ?_, fun q e => (by cases e)⟩
    cases e
    refine ⟨?_, by split <;> (try simp) <;> omega⟩
    unfold R55_Of_s1
    rw [cond_p (by omega), oreq_p (by omega), Int.toNat_natCast, List.getElem?_eq_getElem hi, Option.bind_some, wI64 (by omega) (by omega)]
    generalize l[i] = b
    by_cases h4 : b.State = 4
    · rw [show (b.State == 4) = true from by simpa using h4, cond_true, if_pos h4]; rfl
    · rw [show (b.State == 4) = false from by simpa using h4, cond_false, if_neg h4, oreq_p (by omega), oreq_p (by omega)]
      unfold ofB
      by_cases h3 : b.State = 3
      · rw [show (b.State != 3) = false from by simpa using h3, if_pos h3]; rfl
      · rw [show (b.State != 3) = true from by simpa using h3, if_neg h3]; rfl
  · intro c _
    dsimp only
    unfold R55_Of_s1
    rw [cond_n (by omega)]
end Go.Vm.Code
namespace Go.Vm.Code
open Go Go.Vm Go.Proofs
set_option maxRecDepth 100000
set_option maxHeartbeats 4000000
set_option linter.unusedVariables false
def law55_awakeF (saved_Get : (List UInt8) → Option (saved_Record × Int)) (saved_Of : api_Key → Int → (List api_Backend) → Option saved_Record) (saved_Put : saved_Record → Option ((List UInt8) × Int)) (saved_Right : saved_Record → Option Bool) : Option Bool :=
  (saved_Put (saved_Record.mk (api_Key.mk 0 0) 0 [])).bind fun p =>
  (saved_Get []).bind fun xg =>
  (saved_Of (api_Key.mk 0 0) 3 [api_Backend.mk 1 0 2 (api_Addr.mk false 0 0), api_Backend.mk 2 0 4 (api_Addr.mk false 0 0), api_Backend.mk 3 0 3 (api_Addr.mk false 0 0)]).bind fun xo =>
  cond (p.2 == 0)
    (
    cond ((p.1.length : Int) == 31)
      (
      cond (xg.2 == 2)
        (
        cond ((xo.L.length : Int) == 2)
          (
          oreq (decide ((0 : Int) ≤ (0 : Int) ∧ (0 : Int) < (xo.L.length : Int))) <|
          (xo.L[0]?).bind fun (e : api_Backend) =>
          cond (e.State == 1)
            (
            (saved_Right xo).bind fun xr =>
            some (xr))
            (
            some (false)))
          (
          some (false)))
        (
        some (false)))
      (
      some (false)))
    (
    some (false))
def rx47 (x : Bool) : SRes := ⟨.bool x, [], []⟩
def r47 (g : Option Bool) : Dec := dEnd (ofG (g) rx47)
theorem r47_c {g : Option Bool} {x : Bool} (hx : g = some x) : r47 g [] [] = some (rx47 x) := ofG_eq hx
def s47 (g : Option Bool) : Summ := ⟨[], r47 g⟩
theorem r47_eq {g : Option Bool} {x : Bool} (hx : g = some x) : (s47 g).run [] [] = some (rx47 x) := r47_c hx
abbrev sums47 (saved_Get : (List UInt8) → Option (saved_Record × Int)) (saved_Of : api_Key → Int → (List api_Backend) → Option saved_Record) (saved_Put : saved_Record → Option ((List UInt8) × Int)) (saved_Right : saved_Record → Option Bool) : List (Nat × Summ) := [(48, s48 saved_Get), (58, s58 saved_Of), (53, s53 saved_Put), (56, s56 saved_Right)]
theorem leads47 (saved_Get : (List UInt8) → Option (saved_Record × Int)) (saved_Of : api_Key → Int → (List api_Backend) → Option saved_Record) (saved_Put : saved_Record → Option ((List UInt8) × Int)) (saved_Right : saved_Record → Option Bool) (hS : SumsOK Try.prog (aget (sums47 saved_Get saved_Of saved_Put saved_Right))) (res : Bool) (h : law55_awakeF saved_Get saved_Of saved_Put saved_Right = some res) :
    Leads Try.prog 47 0 ⟨⟨47, 50, [], [.code k47_9], [], false, none⟩, [], [], 0⟩ (fun v H _ => Res 0 (rx47 res) v H) := by
  unfold law55_awakeF at h
  refine ev_ok tab_ok hS true 3000 ?_
  conv => whnf
  replace h := obind.elim h; obtain ⟨p, hy, h⟩ := h
  refine sumK.introF [] (sumRun_of (aqs := [.agg ⟨[.int .u64 (saved_Record.mk (api_Key.mk 0 0) 0 []).Key.A, .int .u64 (saved_Record.mk (api_Key.mk 0 0) 0 []).Key.B, .int .i64 (saved_Record.mk (api_Key.mk 0 0) 0 []).Last, .slice (some ⟨0, 0, none⟩) (saved_Record.mk (api_Key.mk 0 0) 0 []).L.length 6]⟩]) (ws := [.emp false]) (n := 0) (m := 1) (t' := 1) (ra_cons (ra_tr rfl rfl (vp_emp vp_nil) rfl) rfl ra_nil) rfl (by rfl) (r53_eq hy) rfl rfl rfl rfl (wb_skip rfl wb_nil) an_nil rfl) ?_
  conv => whnf
  replace h := obind.elim h; obtain ⟨xg, hy, h⟩ := h
  refine sumK.introF [] (sumRun_of (aqs := [.string ⟨⟨[]⟩⟩]) (ws := []) (n := 1) (m := 0) (t' := 2) (ra_cons rfl rfl ra_nil) rfl (by rfl) (r48_eq hy) rfl rfl rfl rfl wb_nil (an_cons (rn_T capi_Backend_flat) an_nil) rfl) ?_
  conv => whnf
  replace h := obind.elim h; obtain ⟨xo, hy, h⟩ := h
  refine sumK.introF [] (sumRun_of (aqs := [.agg ⟨[.int .u64 0, .int .u64 0]⟩, .int .i64 3, .slice (some ⟨0, 0, none⟩) ([api_Backend.mk 1 0 2 (api_Addr.mk false 0 0), api_Backend.mk 2 0 4 (api_Addr.mk false 0 0), api_Backend.mk 3 0 3 (api_Addr.mk false 0 0)] : List api_Backend).length 6]) (ws := [.win 3 0 (3 * 6) false]) (n := 1) (m := 0) (t' := 5) (ra_cons rfl rfl (ra_cons rfl rfl (ra_cons (by first | rfl | exact ra_allT capi_Backend_len capi_Backend_flat rfl rfl (by first | rfl | omega) (by first | rfl | (simp; done)) | exact ra_slT capi_Backend_len capi_Backend_flat rfl rfl (by first | rfl | omega) (by first | rfl | omega) (by first | omega | (simp at *; omega))) rfl ra_nil))) rfl (by rfl) (r58_eq hy) rfl rfl rfl rfl (wb_skip rfl wb_nil) (an_cons (rn_T capi_Backend_flat) an_nil) rfl) ?_
  conv => whnf
  refine br.h2 h ?_ ?_ ?_
  · rfl
  · clear h; intro hb h; conv => whnf
    all_goals (cases h; exact Res.z rfl rfl rfl)
  clear h; intro hb h; conv => whnf
  refine br.h2 h ?_ ?_ ?_
  · rfl
  · clear h; intro hb h; conv => whnf
    all_goals (cases h; exact Res.z rfl rfl rfl)
  clear h; intro hb h; conv => whnf
  refine br.h2 h ?_ ?_ ?_
  · rfl
  · clear h; intro hb h; conv => whnf
    all_goals (cases h; exact Res.z rfl rfl rfl)
  clear h; intro hb h; conv => whnf
  refine br.h2 h ?_ ?_ ?_
  · rfl
  · clear h; intro hb h; conv => whnf
    all_goals (cases h; exact Res.z rfl rfl rfl)
  clear h; intro hb h; conv => whnf
  replace h := oreq.elim h; obtain ⟨hb, h⟩ := h
  first | (refine req.intro hb ?_; conv => whnf) | skip
  replace h := obind.elim h; obtain ⟨e, hy, h⟩ := h
  refine rd.T (j := 2) capi_Backend_len hy (by first | omega | exact Nat.zero_add _ | exact congrArg (· + _) (Nat.zero_add _)) (by decide) rfl ?_
  conv => whnf
  refine br.h2 h ?_ ?_ ?_
  · rfl
  · clear h; intro hb h; conv => whnf
    all_goals (cases h; exact Res.z rfl rfl rfl)
  clear h; intro hb h; conv => whnf
  replace h := obind.elim h; obtain ⟨xr, hy, h⟩ := h
  refine sumK.introF [] (sumRun_of (aqs := [.agg ⟨[.int .u64 xo.Key.A, .int .u64 xo.Key.B, .int .i64 xo.Last, .slice (some ⟨0, 0, none⟩) xo.L.length 6]⟩]) (ws := [.blk 4 false]) (n := 0) (m := 0) (t' := 6) (ra_cons (ra_tr rfl rfl (vp_at rfl rfl (rn_T capi_Backend_flat) rfl vp_nil) rfl) rfl ra_nil) rfl (by rfl) (r56_eq hy) rfl rfl rfl rfl (wb_skip rfl wb_nil) an_nil rfl) ?_
  conv => whnf
  all_goals (cases h; exact Res.z rfl rfl rfl)
theorem ok47 (saved_Get : (List UInt8) → Option (saved_Record × Int)) (saved_Of : api_Key → Int → (List api_Backend) → Option saved_Record) (saved_Put : saved_Record → Option ((List UInt8) × Int)) (saved_Right : saved_Record → Option Bool) (hS : SumsOK Try.prog (aget (sums47 saved_Get saved_Of saved_Put saved_Right))) : SumOK Try.prog 47 (s47 (law55_awakeF saved_Get saved_Of saved_Put saved_Right)) := by
  refine SumOK.of_leads tab_ok (fun ar os r ha hr => ?_) ⟨Try.f47, rfl, by decide, rfl⟩
  replace hr : r47 (law55_awakeF saved_Get saved_Of saved_Put saved_Right) ar (conts os) = some r := hr
  unfold r47 at hr
  generalize hc : conts os = C at hr
  replace hr := dFin hr; obtain ⟨rfl, rfl, x, h, rfl⟩ := hr
  obtain rfl := kinds_nil hc
  exact ⟨_, rfl, leads47 saved_Get saved_Of saved_Put saved_Right hS x h⟩
def law55_awake : Option Bool := law55_awakeF saved_Get saved_Of saved_Put saved_Right
theorem lift47 : SumOK Try.prog 47 (s47 law55_awake) := ok47 saved_Get saved_Of saved_Put saved_Right (SumsOK.of_tab ⟨lift48, lift58, lift53, lift56, trivial⟩)
def law55_backF (ra0 : saved_Record) : Option saved_Record :=
  some (ra0)
def rx52 (x : saved_Record) : SRes := ⟨.agg ⟨[.int .u64 x.Key.A, .int .u64 x.Key.B, .int .i64 x.Last, .slice (some ⟨0, 0, none⟩) x.L.length 6]⟩, [], [none]⟩
def r52 (g : saved_Record → Option saved_Record) : Dec := dTr 1 (udsaved_Record 0) fun (y0 : saved_Record) => dEnd (ofG (g y0) rx52)
theorem r52_c {g : saved_Record → Option saved_Record} {y0 : saved_Record} {x : saved_Record} (hx : g y0 = some x) : r52 g [.agg ⟨[.int .u64 y0.Key.A, .int .u64 y0.Key.B, .int .i64 y0.Last, .slice (some ⟨0, 0, none⟩) y0.L.length 6]⟩] [some (vT capi_Backend y0.L)] = some (rx52 x) := (dTr_eq rfl rfl (udsaved_Record_c 0 _)).trans (ofG_eq hx)
def s52 (g : saved_Record → Option saved_Record) : Summ := ⟨[.tr [⟨none, 3, 0, 0, some 6⟩]], r52 g⟩
theorem r52_eq {g : saved_Record → Option saved_Record} {y0 : saved_Record} {x : saved_Record} (hx : g y0 = some x) : (s52 g).run [.agg ⟨[.int .u64 y0.Key.A, .int .u64 y0.Key.B, .int .i64 y0.Last, .slice (some ⟨0, 0, none⟩) y0.L.length 6]⟩] [some (vT capi_Backend y0.L)] = some (rx52 x) := r52_c hx
abbrev sums52 : List (Nat × Summ) := []
theorem leads52 (hS : SumsOK Try.prog (aget (sums52))) (ra0 : saved_Record) (res : saved_Record) (h : law55_backF ra0 = some res) :
    Leads Try.prog 52 1 ⟨⟨52, 10, [(0, .agg ⟨[.int .u64 ra0.Key.A, .int .u64 ra0.Key.B, .int .i64 ra0.Last, .slice (some ⟨0, 0, none⟩) ra0.L.length 6]⟩)], [.code k52_3], [], false, none⟩, [], [(0, .row false (vT capi_Backend ra0.L))], 1⟩ (fun v H _ => Res 1 (rx52 res) v H) := by
  unfold law55_backF at h
  refine ev_ok tab_ok hS true 3000 ?_
  conv => whnf
  all_goals (cases h)
  all_goals exact Res.of [] rfl nw_0 (by decide) js_0 (wr_n wr_0)
theorem ok52 (hS : SumsOK Try.prog (aget (sums52))) : SumOK Try.prog 52 (s52 (law55_backF)) := by
  refine SumOK.of_leads tab_ok (fun ar os r ha hr => ?_) ⟨Try.f52, rfl, by decide, rfl⟩
  replace hr : r52 (law55_backF) ar (conts os) = some r := hr
  unfold r52 at hr
  generalize hc : conts os = C at hr
  have hq := dTr.elim hr; clear hr; obtain ⟨v0, l1, c0, C, y0, rfl, rfl, e0, hr⟩ := hq; obtain ⟨rfl, rfl⟩ := udsaved_Record_eq e0; simp only [List.nil_append, List.cons_append] at hc
  replace hr := dFin hr; obtain ⟨rfl, rfl, x, h, rfl⟩ := hr
  obtain ⟨os, rfl, ha, hc⟩ := kinds_some ha hc
  obtain rfl := kinds_nil hc
  exact ⟨_, rfl, leads52 hS _ x h⟩
def law55_back : saved_Record → Option saved_Record := law55_backF
theorem lift52 : SumOK Try.prog 52 (s52 law55_back) := ok52 (SumsOK.of_tab trivial)
def law55_ofF (ra0 : saved_Record) : Option saved_Record :=
  some (ra0)
def rx54 (x : saved_Record) : SRes := ⟨.agg ⟨[.int .u64 x.Key.A, .int .u64 x.Key.B, .int .i64 x.Last, .slice (some ⟨0, 0, none⟩) x.L.length 6]⟩, [], [none]⟩
def r54 (g : saved_Record → Option saved_Record) : Dec := dTr 1 (udsaved_Record 0) fun (y0 : saved_Record) => dEnd (ofG (g y0) rx54)
theorem r54_c {g : saved_Record → Option saved_Record} {y0 : saved_Record} {x : saved_Record} (hx : g y0 = some x) : r54 g [.agg ⟨[.int .u64 y0.Key.A, .int .u64 y0.Key.B, .int .i64 y0.Last, .slice (some ⟨0, 0, none⟩) y0.L.length 6]⟩] [some (vT capi_Backend y0.L)] = some (rx54 x) := (dTr_eq rfl rfl (udsaved_Record_c 0 _)).trans (ofG_eq hx)
def s54 (g : saved_Record → Option saved_Record) : Summ := ⟨[.tr [⟨none, 3, 0, 0, some 6⟩]], r54 g⟩
theorem r54_eq {g : saved_Record → Option saved_Record} {y0 : saved_Record} {x : saved_Record} (hx : g y0 = some x) : (s54 g).run [.agg ⟨[.int .u64 y0.Key.A, .int .u64 y0.Key.B, .int .i64 y0.Last, .slice (some ⟨0, 0, none⟩) y0.L.length 6]⟩] [some (vT capi_Backend y0.L)] = some (rx54 x) := r54_c hx
abbrev sums54 : List (Nat × Summ) := []
theorem leads54 (hS : SumsOK Try.prog (aget (sums54))) (ra0 : saved_Record) (res : saved_Record) (h : law55_ofF ra0 = some res) :
    Leads Try.prog 54 1 ⟨⟨54, 10, [(0, .agg ⟨[.int .u64 ra0.Key.A, .int .u64 ra0.Key.B, .int .i64 ra0.Last, .slice (some ⟨0, 0, none⟩) ra0.L.length 6]⟩)], [.code k54_3], [], false, none⟩, [], [(0, .row false (vT capi_Backend ra0.L))], 1⟩ (fun v H _ => Res 1 (rx54 res) v H) := by
  unfold law55_ofF at h
  refine ev_ok tab_ok hS true 3000 ?_
  conv => whnf
  all_goals (cases h)
  all_goals exact Res.of [] rfl nw_0 (by decide) js_0 (wr_n wr_0)
theorem ok54 (hS : SumsOK Try.prog (aget (sums54))) : SumOK Try.prog 54 (s54 (law55_ofF)) := by
  refine SumOK.of_leads tab_ok (fun ar os r ha hr => ?_) ⟨Try.f54, rfl, by decide, rfl⟩
  replace hr : r54 (law55_ofF) ar (conts os) = some r := hr
  unfold r54 at hr
  generalize hc : conts os = C at hr
  have hq := dTr.elim hr; clear hr; obtain ⟨v0, l1, c0, C, y0, rfl, rfl, e0, hr⟩ := hq; obtain ⟨rfl, rfl⟩ := udsaved_Record_eq e0; simp only [List.nil_append, List.cons_append] at hc
  replace hr := dFin hr; obtain ⟨rfl, rfl, x, h, rfl⟩ := hr
  obtain ⟨os, rfl, ha, hc⟩ := kinds_some ha hc
  obtain rfl := kinds_nil hc
  exact ⟨_, rfl, leads54 hS _ x h⟩
def law55_of : saved_Record → Option saved_Record := law55_ofF
theorem lift54 : SumOK Try.prog 54 (s54 law55_of) := ok54 (SumsOK.of_tab trivial)
end Go.Vm.Code
