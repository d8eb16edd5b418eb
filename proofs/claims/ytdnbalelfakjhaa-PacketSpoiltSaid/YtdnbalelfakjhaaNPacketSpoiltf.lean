import Derived.Test.YtdnbalelfakjhaaNPacketSpoilte
namespace Go.Vm.Code
open Go Go.Vm Go.Proofs
set_option maxRecDepth 100000
set_option maxHeartbeats 4000000
set_option linter.unusedVariables false
def packet_DatagramF (packet_Put : api_Tuple → (List UInt8) → Option ((List UInt8) × Int)) (udp_Put : udp_Head → api_Addr → api_Addr → (List UInt8) → Option ((List UInt8) × Int)) (t : api_Tuple) (payload : List UInt8) : Option ((List UInt8) × Int) :=
  cond (t.Proto != 17)
    (
    some (([], 1)))
    (
    (udp_Put (udp_Head.mk t.SPort t.DPort) t.Src t.Dst payload).bind fun p =>
    cond (p.2 != 0)
      (
      some (([], p.2)))
      (
      (packet_Put t p.1).bind fun p1 =>
      some ((p1.1, p1.2))))
def rx17 (x : (List UInt8) × Int) : SRes := ⟨.tuple ⟨[.string ⟨⟨x.1⟩⟩, .int .i64 x.2]⟩, [], []⟩
def r17 (g : api_Tuple → (List UInt8) → Option ((List UInt8) × Int)) : Dec := dV uvapi_Tuple fun (y0 : api_Tuple) => dV asS fun (y1 : List UInt8) => dEnd (ofG (g y0 y1) rx17)
theorem r17_c {g : api_Tuple → (List UInt8) → Option ((List UInt8) × Int)} {y0 : api_Tuple} {y1 : List UInt8} {x : (List UInt8) × Int} (hx : g y0 y1 = some x) : r17 g [.agg ⟨[.int .i64 y0.Proto, .bool y0.Src.V6, .int .u64 y0.Src.Hi, .int .u64 y0.Src.Lo, .bool y0.Dst.V6, .int .u64 y0.Dst.Hi, .int .u64 y0.Dst.Lo, .int .i64 y0.SPort, .int .i64 y0.DPort]⟩, .string ⟨⟨y1⟩⟩] [] = some (rx17 x) := (dV_eq (uvapi_Tuple_c _)).trans ((dV_eq (asS_c)).trans (ofG_eq hx))
def s17 (g : api_Tuple → (List UInt8) → Option ((List UInt8) × Int)) : Summ := ⟨[.v, .v], r17 g⟩
theorem r17_eq {g : api_Tuple → (List UInt8) → Option ((List UInt8) × Int)} {y0 : api_Tuple} {y1 : List UInt8} {x : (List UInt8) × Int} (hx : g y0 y1 = some x) : (s17 g).run [.agg ⟨[.int .i64 y0.Proto, .bool y0.Src.V6, .int .u64 y0.Src.Hi, .int .u64 y0.Src.Lo, .bool y0.Dst.V6, .int .u64 y0.Dst.Hi, .int .u64 y0.Dst.Lo, .int .i64 y0.SPort, .int .i64 y0.DPort]⟩, .string ⟨⟨y1⟩⟩] [] = some (rx17 x) := r17_c hx
abbrev sums17 (packet_Put : api_Tuple → (List UInt8) → Option ((List UInt8) × Int)) (udp_Put : udp_Head → api_Addr → api_Addr → (List UInt8) → Option ((List UInt8) × Int)) : List (Nat × Summ) := [(32, s32 packet_Put), (35, s35 udp_Put)]
theorem leads17 (packet_Put : api_Tuple → (List UInt8) → Option ((List UInt8) × Int)) (udp_Put : udp_Head → api_Addr → api_Addr → (List UInt8) → Option ((List UInt8) × Int)) (hS : SumsOK Try.prog (aget (sums17 packet_Put udp_Put))) (t : api_Tuple) (payload : List UInt8) (res : (List UInt8) × Int) (h : packet_DatagramF packet_Put udp_Put t payload = some res) :
    Leads Try.prog 17 0 ⟨⟨17, 33, [(0, .agg ⟨[.int .i64 t.Proto, .bool t.Src.V6, .int .u64 t.Src.Hi, .int .u64 t.Src.Lo, .bool t.Dst.V6, .int .u64 t.Dst.Hi, .int .u64 t.Dst.Lo, .int .i64 t.SPort, .int .i64 t.DPort]⟩), (1, .string ⟨⟨payload⟩⟩)], [.code k17_17], [], false, none⟩, [], [], 0⟩ (fun v H _ => Res 0 (rx17 res) v H) := by
  unfold packet_DatagramF at h
  refine ev_ok tab_ok hS true 3000 ?_
  conv => whnf
  refine br.h h ?_ ?_ ?_
  · rfl
  · clear h; intro hb h; conv => whnf
    all_goals (cases h; exact Res.z rfl rfl rfl)
  clear h; intro hb h; conv => whnf
  replace h := obind.elim h; obtain ⟨p, hy, h⟩ := h
  refine sumK.q rfl rfl (r35_eq hy) rfl rfl rfl ?_
  conv => whnf
  refine br.h h ?_ ?_ ?_
  · rfl
  · clear h; intro hb h; conv => whnf
    all_goals (cases h; exact Res.z rfl rfl rfl)
  clear h; intro hb h; conv => whnf
  replace h := obind.elim h; obtain ⟨p1, hy, h⟩ := h
  refine sumK.q rfl rfl (r32_eq hy) rfl rfl rfl ?_
  conv => whnf
  all_goals (cases h; exact Res.z rfl rfl rfl)
theorem ok17 (packet_Put : api_Tuple → (List UInt8) → Option ((List UInt8) × Int)) (udp_Put : udp_Head → api_Addr → api_Addr → (List UInt8) → Option ((List UInt8) × Int)) (hS : SumsOK Try.prog (aget (sums17 packet_Put udp_Put))) : SumOK Try.prog 17 (s17 (packet_DatagramF packet_Put udp_Put)) := by
  refine SumOK.of_leads tab_ok (fun ar os r ha hr => ?_) ⟨Try.f17, rfl, by decide, rfl⟩
  replace hr : r17 (packet_DatagramF packet_Put udp_Put) ar (conts os) = some r := hr
  unfold r17 at hr
  generalize hc : conts os = C at hr
  replace hr := dV.elim hr; obtain ⟨v0, l1, y0, rfl, e0, hr⟩ := hr; obtain rfl := uvapi_Tuple_eq _ _ e0
  replace hr := dV.elim hr; obtain ⟨v1, l2, y1, rfl, e1, hr⟩ := hr; obtain rfl := asS_eq _ _ e1
  replace hr := dFin hr; obtain ⟨rfl, rfl, x, h, rfl⟩ := hr
  obtain rfl := kinds_nil hc
  exact ⟨_, rfl, leads17 packet_Put udp_Put hS _ _ x h⟩
def packet_Datagram : api_Tuple → (List UInt8) → Option ((List UInt8) × Int) := packet_DatagramF packet_Put udp_Put
theorem lift17 : SumOK Try.prog 17 (s17 packet_Datagram) := ok17 packet_Put udp_Put (SumsOK.of_tab ⟨lift32, lift35, trivial⟩)
end Go.Vm.Code
namespace Go.Vm.Code
open Go Go.Vm
theorem A4.addrOK {a : api_Addr} (h : A4 a) : AddrOK a := ⟨⟨h.1, h.2.1⟩, h.2.2.1, h.2.2.2⟩
def h6of (t : api_Tuple) : ipsix_Head := ⟨0, 0, t.Proto, 64, t.Src, t.Dst⟩
def h5of (t : api_Tuple) : ipfour_Head := ⟨0, 0, true, 64, t.Proto, t.Src, t.Dst, []⟩
def raw11 (t : api_Tuple) (b : List UInt8) : List UInt8 × Int := cond t.Src.V6 (put6 (h6of t) b) (put5 (h5of t) b)
def put11 (t : api_Tuple) (b : List UInt8) : List UInt8 × Int :=
  if t.Src.V6 ≠ t.Dst.V6 ∨ aok t.Src = false ∨ aok t.Dst = false ∨ (t.Proto ≠ 6 ∧ t.Proto ≠ 17) then ([], 1) else
    if (raw11 t b).2 = 0 ∧ 9000 < (raw11 t b).1.length then ([], 5) else raw11 t b
theorem fin11 (r : List UInt8 × Int) : (cond (r.2 == 0) (cond (decide ((r.1.length : Int) > 9000)) (some (([], 5) : List UInt8 × Int)) (some (r.1, r.2))) (some (r.1, r.2))) = some (if r.2 = 0 ∧ 9000 < r.1.length then ([], 5) else r) := by
  by_cases h : r.2 = 0
  · rw [show (r.2 == 0) = true by simpa using h, cond_true]
    by_cases h2 : 9000 < r.1.length
    · rw [cond_p (by omega), if_pos ⟨h, h2⟩]
    · rw [cond_n (by omega), if_neg (fun x => h2 x.2)]
  · rw [show (r.2 == 0) = false by simpa using h, cond_false, if_neg (fun x => h x.1)]
def seg11 (t : api_Tuple) (flags : Int) (o l : List UInt8) : List UInt8 × Int :=
  if t.Proto ≠ 6 then ([], 1) else if (put7 ⟨t.SPort, t.DPort, 0, 0, flags, 65535, 0, o⟩ t.Src t.Dst l).2 ≠ 0 then ([], (put7 ⟨t.SPort, t.DPort, 0, 0, flags, 65535, 0, o⟩ t.Src t.Dst l).2) else put11 t (put7 ⟨t.SPort, t.DPort, 0, 0, flags, 65535, 0, o⟩ t.Src t.Dst l).1
def dat11 (t : api_Tuple) (l : List UInt8) : List UInt8 × Int :=
  if t.Proto ≠ 17 then ([], 1) else if (put8 ⟨t.SPort, t.DPort⟩ t.Src t.Dst l).2 ≠ 0 then ([], (put8 ⟨t.SPort, t.DPort⟩ t.Src t.Dst l).2) else put11 t (put8 ⟨t.SPort, t.DPort⟩ t.Src t.Dst l).1
theorem put7_len (h : tcp_Head) (src dst : api_Addr) (l : List UInt8) : (put7 h src dst l).1.length ≤ 20 + h.Options.length + l.length := by
  unfold put7
  split
  · simp
  split
  · simp
  split
  · simp
  · simp only [List.length_append, hc7_len]; omega
theorem put8_len (h : udp_Head) (src dst : api_Addr) (l : List UInt8) : (put8 h src dst l).1.length ≤ 34 + l.length := by
  unfold put8
  split
  · simp
  split
  · simp
  split
  · simp
  · have := u8_len (h := h) (l := l)
    have := setS_len (u8 h l) 6 2 (ck8 (pseu src dst 17 (8 + l.length)) (u8 h l))
    simp only []; omega
theorem put11_ok {t : api_Tuple} {b : List UInt8} (h : (put11 t b).2 = 0) : t.Src.V6 = t.Dst.V6 ∧ aok t.Src = true ∧ aok t.Dst = true ∧ (t.Proto = 6 ∨ t.Proto = 17) ∧ (put11 t b).1.length ≤ 9000 ∧
    ((t.Src.V6 = true ∧ H6 (h6of t) ∧ b.length ≤ 65535 ∧ put11 t b = (headB (h6of t) b.length ++ b, 0)) ∨ (t.Src.V6 = false ∧ H5 (h5of t) = true ∧ 20 + b.length ≤ 65535 ∧ put11 t b = (hc5 (h5of t) (20 + b.length) (ck5 (h5of t) (20 + b.length)) ++ b, 0))) := by
  unfold put11 at h ⊢
  by_cases g : t.Src.V6 ≠ t.Dst.V6 ∨ aok t.Src = false ∨ aok t.Dst = false ∨ (t.Proto ≠ 6 ∧ t.Proto ≠ 17)
  · rw [if_pos g] at h; exact absurd h (by decide)
  rw [if_neg g] at h ⊢
  by_cases g2 : (raw11 t b).2 = 0 ∧ 9000 < (raw11 t b).1.length
  · rw [if_pos g2] at h; exact absurd h (by decide)
  rw [if_neg g2] at h ⊢
  have hlen : (raw11 t b).1.length ≤ 9000 := by
    rcases Nat.lt_or_ge 9000 (raw11 t b).1.length with x | x
    · exact absurd ⟨h, x⟩ g2
    · exact x
  have e1 : t.Src.V6 = t.Dst.V6 := Decidable.byContradiction fun x => g (.inl x)
  have e2 : aok t.Src = true := by cases x : aok t.Src; · exact absurd (.inr (.inl x)) g
                                   · rfl
  have e3 : aok t.Dst = true := by cases x : aok t.Dst; · exact absurd (.inr (.inr (.inl x))) g
                                   · rfl
  have e4 : t.Proto = 6 ∨ t.Proto = 17 := by
    rcases Decidable.em (t.Proto = 6) with x | x
    · exact .inl x
    · exact .inr (Decidable.byContradiction fun y => g (.inr (.inr (.inr ⟨x, y⟩))))
  refine ⟨e1, e2, e3, e4, hlen, ?_⟩
  unfold raw11 at h ⊢
  cases hv : t.Src.V6
  · right
    rw [hv, cond_false] at h
    rw [cond_false]
    unfold put5 at h ⊢
    cases hh : H5 (h5of t)
    · rw [if_pos hh] at h; exact absurd h (by decide)
    rw [if_neg (by rw [hh]; decide)] at h
    rw [if_neg (by decide)]
    by_cases hl : 65535 - (20 + ((h5of t).Options.length : Int)) < b.length
    · rw [if_pos hl] at h; exact absurd h (by decide)
    have ho : (h5of t).Options.length = 0 := rfl
    rw [if_neg hl]
    refine ⟨rfl, rfl, by omega, ?_⟩
    rw [show (20 + ((h5of t).Options.length : Int) + b.length) = ((20 + b.length : Nat) : Int) by omega, hd5_hc hv (by rw [← hv]; exact e1.symm), set_hc]
    have : (65535 - ((norm (wsum (hc5 (h5of t) (20 + b.length) 0)) : Nat) : Int)).toNat = ck5 (h5of t) (20 + b.length) := by
      have := norm_le (wsum (hc5 (h5of t) (20 + b.length) 0))
      unfold ck5; omega
    rw [this]
  · left
    rw [hv, cond_true] at h
    rw [cond_true]
    unfold put6 at h ⊢
    by_cases hh : H6 (h6of t)
    · rw [if_neg (by simpa using hh)] at h ⊢
      by_cases hl : b.length > 65535
      · rw [if_pos hl] at h; exact absurd h (by decide)
      rw [if_neg hl]
      exact ⟨rfl, hh, by omega, rfl⟩
    · rw [if_pos hh] at h; exact absurd h (by decide)
theorem and14_bits : ∀ i : Fin 16, i.val ≠ 14 → Nat.testBit 18446744073709535231 i.val = true := by decide +kernel
theorem and14_zero {x : Nat} (hx : x < 65536) : x &&& 18446744073709535231 = 0 ↔ x = 0 ∨ x = 16384 := by
  constructor
  · intro h
    have hbit : ∀ i, i ≠ 14 → x.testBit i = false := by
      intro i hi
      by_cases h16 : i < 16
      · have h1 : (x &&& 18446744073709535231).testBit i = false := by rw [h]; exact Nat.zero_testBit i
        rw [Nat.testBit_and, and14_bits ⟨i, h16⟩ hi, Bool.and_true] at h1
        exact h1
      · exact Nat.testBit_lt_two_pow (Nat.lt_of_lt_of_le hx (by
          have : 2 ^ 16 ≤ 2 ^ i := Nat.pow_le_pow_right (by decide) (by omega)
          omega))
    cases h14 : x.testBit 14
    · left
      apply Nat.eq_of_testBit_eq
      intro i
      rw [Nat.zero_testBit]
      by_cases hi : i = 14
      · rw [hi, h14]
      · exact hbit i hi
    · right
      apply Nat.eq_of_testBit_eq
      intro i
      rw [show (16384 : Nat) = 2 ^ 14 from rfl, Nat.testBit_two_pow]
      by_cases hi : i = 14
      · rw [hi, h14]; rfl
      · rw [hbit i hi, decide_eq_false (fun e => hi e.symm)]
  · rintro (h | h)
    · rw [h]; rfl
    · rw [h]; rfl
theorem andn14 {x : Nat} (hx : x < 65536) : andnI .i64 (x : Int) 16384 = ((x &&& 18446744073709535231 : Nat) : Int) := by
  have h : x &&& 18446744073709535231 ≤ x := Nat.and_le_left
  show IntKind.wrap .i64 _ = _
  rw [show IntKind.bits .i64 = 64 from rfl, BitVec.toNat_and, bv64 (by omega), show (~~~ (BitVec.ofInt 64 16384)).toNat = 18446744073709535231 from rfl]
  exact wI64 (by omega) (by omega)
theorem andn_flag {a b : UInt8} : (andnI .i64 ((a.toNat : Int) * 256 + b.toNat) 16384 != 0) = decide ((a.toNat : Int) * 256 + b.toNat ≠ 0 ∧ (a.toNat : Int) * 256 + b.toNat ≠ 16384) := by
  have h1 := a.toNat_lt
  have h2 := b.toNat_lt
  have hx : a.toNat * 256 + b.toNat < 65536 := by omega
  rw [show (a.toNat : Int) * 256 + b.toNat = ((a.toNat * 256 + b.toNat : Nat) : Int) by omega, andn14 hx, Bool.eq_iff_iff, bne_iff_ne, decide_eq_true_eq]
  have hz := and14_zero hx
  generalize a.toNat * 256 + b.toNat = x at *
  generalize x &&& 18446744073709535231 = y at *
  constructor
  · intro h
    have : ¬ (x = 0 ∨ x = 16384) := fun e => h (by have := hz.2 e; omega)
    omega
  · intro h e
    have := hz.1 (by omega)
    omega
end Go.Vm.Code
namespace Go.Vm.Code
open Go Go.Vm Go.Proofs
set_option maxRecDepth 100000
set_option maxHeartbeats 4000000
set_option linter.unusedVariables false
def addr_GetF (octet_Get : (List UInt8) → Int → Int → Option (Int × Bool)) (s : List UInt8) : Option (api_Addr × Bool) :=
  cond ((s.length : Int) == 4)
    (
    (octet_Get s 0 4).bind fun xg =>
    some ((api_Addr.mk false 0 xg.1, true)))
    (
    cond ((s.length : Int) == 16)
      (
      (octet_Get s 0 8).bind fun xg1 =>
      (octet_Get s 8 8).bind fun xg2 =>
      some ((api_Addr.mk true xg1.1 xg2.1, true)))
      (
      some ((api_Addr.mk false 0 0, false))))
def rx117 (x : api_Addr × Bool) : SRes := ⟨.tuple ⟨[.agg ⟨[.bool x.1.V6, .int .u64 x.1.Hi, .int .u64 x.1.Lo]⟩, .bool x.2]⟩, [], []⟩
def r117 (g : (List UInt8) → Option (api_Addr × Bool)) : Dec := dV asS fun (y0 : List UInt8) => dEnd (ofG (g y0) rx117)
theorem r117_c {g : (List UInt8) → Option (api_Addr × Bool)} {y0 : List UInt8} {x : api_Addr × Bool} (hx : g y0 = some x) : r117 g [.string ⟨⟨y0⟩⟩] [] = some (rx117 x) := (dV_eq (asS_c)).trans (ofG_eq hx)
def s117 (g : (List UInt8) → Option (api_Addr × Bool)) : Summ := ⟨[.v], r117 g⟩
theorem r117_eq {g : (List UInt8) → Option (api_Addr × Bool)} {y0 : List UInt8} {x : api_Addr × Bool} (hx : g y0 = some x) : (s117 g).run [.string ⟨⟨y0⟩⟩] [] = some (rx117 x) := r117_c hx
abbrev sums117 (octet_Get : (List UInt8) → Int → Int → Option (Int × Bool)) : List (Nat × Summ) := [(25, s25 octet_Get)]
theorem leads117 (octet_Get : (List UInt8) → Int → Int → Option (Int × Bool)) (hS : SumsOK Try.prog (aget (sums117 octet_Get))) (s : List UInt8) (res : api_Addr × Bool) (h : addr_GetF octet_Get s = some res) :
    Leads Try.prog 117 0 ⟨⟨117, 35, [(0, .string ⟨⟨s⟩⟩)], [.code k117_25], [], false, none⟩, [], [], 0⟩ (fun v H _ => Res 0 (rx117 res) v H) := by
  unfold addr_GetF at h
  refine ev_ok tab_ok hS true 3000 ?_
  conv => whnf
  refine br.h h ?_ ?_ ?_
  · rfl
  · clear h; intro hb h; conv => whnf
    replace h := obind.elim h; obtain ⟨xg, hy, h⟩ := h
    refine sumK.q rfl rfl (r25_eq hy) rfl rfl rfl ?_
    conv => whnf
    all_goals (cases h; exact Res.z rfl rfl rfl)
  clear h; intro hb h; conv => whnf
  refine br.h2 h ?_ ?_ ?_
  · rfl
  · clear h; intro hb h; conv => whnf
    all_goals (cases h; exact Res.z rfl rfl rfl)
  clear h; intro hb h; conv => whnf
  replace h := obind.elim h; obtain ⟨xg1, hy, h⟩ := h
  refine sumK.q rfl rfl (r25_eq hy) rfl rfl rfl ?_
  conv => whnf
  replace h := obind.elim h; obtain ⟨xg2, hy, h⟩ := h
  refine sumK.q rfl rfl (r25_eq hy) rfl rfl rfl ?_
  conv => whnf
  all_goals (cases h; exact Res.z rfl rfl rfl)
theorem ok117 (octet_Get : (List UInt8) → Int → Int → Option (Int × Bool)) (hS : SumsOK Try.prog (aget (sums117 octet_Get))) : SumOK Try.prog 117 (s117 (addr_GetF octet_Get)) := by
  refine SumOK.of_leads tab_ok (fun ar os r ha hr => ?_) ⟨Try.f117, rfl, by decide, rfl⟩
  replace hr : r117 (addr_GetF octet_Get) ar (conts os) = some r := hr
  unfold r117 at hr
  generalize hc : conts os = C at hr
  replace hr := dV.elim hr; obtain ⟨v0, l1, y0, rfl, e0, hr⟩ := hr; obtain rfl := asS_eq _ _ e0
  replace hr := dFin hr; obtain ⟨rfl, rfl, x, h, rfl⟩ := hr
  obtain rfl := kinds_nil hc
  exact ⟨_, rfl, leads117 octet_Get hS _ x h⟩
def addr_Get : (List UInt8) → Option (api_Addr × Bool) := addr_GetF octet_Get
theorem lift117 : SumOK Try.prog 117 (s117 addr_Get) := ok117 octet_Get (SumsOK.of_tab ⟨lift25, trivial⟩)
end Go.Vm.Code
namespace Go.Vm.Code
open Go Go.Vm
theorem addr_Get16 {s : List UInt8} (h : s.length = 16) : addr_Get s = some (addrG s, true) := by
  unfold addr_Get addr_GetF
  have e1 : ((s.length : Int) == 4) = false := by rw [h]; rfl
  have e2 : ((s.length : Int) == 16) = true := by rw [h]; rfl
  have e3 : (s.drop 8).take 8 = s.drop 8 := List.take_of_length_le (by simp; omega)
  rw [e1, e2, cond_false, cond_true, octet_Get_eq (by omega), octet_Get_eq (by omega), getS_at (p := 0) (k := 8) (by omega) (by omega) (by omega) (by omega), getS_at (p := 8) (k := 8) (by omega) (by omega) (by omega) (by omega)]
  show some ((⟨true, ((valL ((s.drop 0).take 8) : Nat) : Int), ((valL ((s.drop 8).take 8) : Nat) : Int)⟩ : api_Addr), true) = _
  rw [e3]; rfl
def adr4 (s : List UInt8) (p : Nat) : api_Addr := ⟨false, 0, vK s p 4⟩
theorem aget4 {s : List UInt8} (h : s.length = 4) : addr_Get s = some (⟨false, 0, vK s 0 4⟩, true) := by
  unfold addr_Get addr_GetF
  rw [show ((s.length : Int) == 4) = true by rw [h]; rfl, cond_true, octet_Get_eq (by omega), getS_at (by omega) (by omega) (by omega) (by omega)]; rfl
end Go.Vm.Code
namespace Go.Vm.Code
open Go Go.Vm Go.Proofs
set_option maxRecDepth 100000
set_option maxHeartbeats 4000000
set_option linter.unusedVariables false
def ipfour_fields_addressF (addr_Get : (List UInt8) → Option (api_Addr × Bool)) (octet_Reader_Text : octet_Reader → Int → Option ((List UInt8) × octet_Reader)) (f : ipfour_fields) : Option (api_Addr × octet_Reader) :=
  (octet_Reader_Text f.Reader 4).bind fun t =>
  (addr_Get t.1).bind fun xg =>
  some ((xg.1, t.2))
def rx116 (x : api_Addr × octet_Reader) : SRes := ⟨.agg ⟨[.bool x.1.V6, .int .u64 x.1.Hi, .int .u64 x.1.Lo]⟩, [], [some [.string ⟨⟨x.2.s⟩⟩, .bool x.2.made, .bool x.2.bad]]⟩
def r116 (g : ipfour_fields → Option (api_Addr × octet_Reader)) : Dec := dTr 1 (utipfour_fields 0) fun (y0 : ipfour_fields) => dEnd (ofG (g y0) rx116)
theorem r116_c {g : ipfour_fields → Option (api_Addr × octet_Reader)} {y0 : ipfour_fields} {x : api_Addr × octet_Reader} (hx : g y0 = some x) : r116 g [.agg ⟨[.pointer (some ⟨0, 0, none⟩)]⟩] [some [.string ⟨⟨y0.Reader.s⟩⟩, .bool y0.Reader.made, .bool y0.Reader.bad]] = some (rx116 x) := (dTr_eq rfl rfl (utipfour_fields_c 0 _)).trans (ofG_eq hx)
def s116 (g : ipfour_fields → Option (api_Addr × octet_Reader)) : Summ := ⟨[.tr [⟨none, 0, 0, 1, none⟩]], r116 g⟩
theorem r116_eq {g : ipfour_fields → Option (api_Addr × octet_Reader)} {y0 : ipfour_fields} {x : api_Addr × octet_Reader} (hx : g y0 = some x) : (s116 g).run [.agg ⟨[.pointer (some ⟨0, 0, none⟩)]⟩] [some [.string ⟨⟨y0.Reader.s⟩⟩, .bool y0.Reader.made, .bool y0.Reader.bad]] = some (rx116 x) := r116_c hx
abbrev sums116 (addr_Get : (List UInt8) → Option (api_Addr × Bool)) (octet_Reader_Text : octet_Reader → Int → Option ((List UInt8) × octet_Reader)) : List (Nat × Summ) := [(117, s117 addr_Get), (106, s106 octet_Reader_Text)]
theorem leads116 (addr_Get : (List UInt8) → Option (api_Addr × Bool)) (octet_Reader_Text : octet_Reader → Int → Option ((List UInt8) × octet_Reader)) (hS : SumsOK Try.prog (aget (sums116 addr_Get octet_Reader_Text))) (f : ipfour_fields) (res : api_Addr × octet_Reader) (h : ipfour_fields_addressF addr_Get octet_Reader_Text f = some res) :
    Leads Try.prog 116 1 ⟨⟨116, 13, [(0, .agg ⟨[.pointer (some ⟨0, 0, none⟩)]⟩)], [.code k116_5], [], false, none⟩, [], [(0, .cells [.string ⟨⟨f.Reader.s⟩⟩, .bool f.Reader.made, .bool f.Reader.bad])], 1⟩ (fun v H _ => Res 1 (rx116 res) v H) := by
  unfold ipfour_fields_addressF at h
  refine ev_ok tab_ok hS true 3000 ?_
  conv => whnf
  replace h := obind.elim h; obtain ⟨t, hy, h⟩ := h
  refine sumK.introF [0] (sumRun_of (aqs := [.pointer (some ⟨0, 0, none⟩), .int .i64 4]) (ws := [.win 0 0 3 true]) (n := 0) (m := 0) (t' := 3) (ra_cons rfl rfl (ra_cons rfl rfl ra_nil)) rfl (by rfl) (r106_eq hy) rfl rfl rfl rfl (wb_win rfl rfl rfl ⟨rfl, Nat.le_of_ble_eq_true rfl⟩ rfl rfl wb_nil) an_nil rfl) ?_
  conv => whnf
  replace h := obind.elim h; obtain ⟨xg, hy, h⟩ := h
  refine sumK.q rfl rfl (r117_eq hy) rfl rfl rfl ?_
  conv => whnf
  all_goals (cases h)
  all_goals exact Res.of [] rfl nw_0 (by decide) js_0 (wr_s (rfl) (hs_cells rfl) wr_0)
theorem ok116 (addr_Get : (List UInt8) → Option (api_Addr × Bool)) (octet_Reader_Text : octet_Reader → Int → Option ((List UInt8) × octet_Reader)) (hS : SumsOK Try.prog (aget (sums116 addr_Get octet_Reader_Text))) : SumOK Try.prog 116 (s116 (ipfour_fields_addressF addr_Get octet_Reader_Text)) := by
  refine SumOK.of_leads tab_ok (fun ar os r ha hr => ?_) ⟨Try.f116, rfl, by decide, rfl⟩
  replace hr : r116 (ipfour_fields_addressF addr_Get octet_Reader_Text) ar (conts os) = some r := hr
  unfold r116 at hr
  generalize hc : conts os = C at hr
  have hq := dTr.elim hr; clear hr; obtain ⟨v0, l1, c0, C, y0, rfl, rfl, e0, hr⟩ := hq; obtain ⟨rfl, rfl⟩ := utipfour_fields_eq e0; simp only [List.nil_append, List.cons_append] at hc
  replace hr := dFin hr; obtain ⟨rfl, rfl, x, h, rfl⟩ := hr
  obtain ⟨os, rfl, ha, hc⟩ := kinds_some ha hc
  obtain rfl := kinds_nil hc
  exact ⟨_, rfl, leads116 addr_Get octet_Reader_Text hS _ x h⟩
def ipfour_fields_address : ipfour_fields → Option (api_Addr × octet_Reader) := ipfour_fields_addressF addr_Get octet_Reader_Text
theorem lift116 : SumOK Try.prog 116 (s116 ipfour_fields_address) := ok116 addr_Get octet_Reader_Text (SumsOK.of_tab ⟨lift117, lift106, trivial⟩)
def ipfour_GetF (check_Right : (List UInt8) → Option Bool) (ipfour_fields_address : ipfour_fields → Option (api_Addr × octet_Reader)) (octet_New : (List UInt8) → Option octet_Reader) (octet_Reader_Num : octet_Reader → Int → Option (Int × octet_Reader)) (octet_Reader_Text : octet_Reader → Int → Option ((List UInt8) × octet_Reader)) (s : List UInt8) : Option (ipfour_Head × (List UInt8) × Int) :=
  cond (decide ((s.length : Int) < 20))
    (
    some ((ipfour_Head.mk 0 0 false 0 0 (api_Addr.mk false 0 0) (api_Addr.mk false 0 0) [], [], 2)))
    (
    (octet_New s).bind fun n =>
    (octet_Reader_Num n 1).bind fun n1 =>
    (octet_Reader_Num n1.2 1).bind fun n2 =>
    (octet_Reader_Num n2.2 2).bind fun n3 =>
    cond ((n1.1.fdiv (2 ^ 4)) != 4)
      (
      some ((ipfour_Head.mk 0 0 false 0 0 (api_Addr.mk false 0 0) (api_Addr.mk false 0 0) [], [], 3)))
      (
      let t := decide ((wI .i64 ((andI .i64 n1.1 15) * 4)) < 20)
      cond (t)
        (
        some ((ipfour_Head.mk 0 0 false 0 0 (api_Addr.mk false 0 0) (api_Addr.mk false 0 0) [], [], 3)))
        (
        let t1 := decide (n3.1 < (wI .i64 ((andI .i64 n1.1 15) * 4)))
        cond (t1)
          (
          some ((ipfour_Head.mk 0 0 false 0 0 (api_Addr.mk false 0 0) (api_Addr.mk false 0 0) [], [], 3)))
          (
          cond (decide (n3.1 > (s.length : Int)))
            (
            some ((ipfour_Head.mk 0 0 false 0 0 (api_Addr.mk false 0 0) (api_Addr.mk false 0 0) [], [], 2)))
            (
            oreq (decide ((0 : Int) ≤ (wI .i64 ((andI .i64 n1.1 15) * 4)) ∧ (wI .i64 ((andI .i64 n1.1 15) * 4)) ≤ (s.length : Int))) <|
            let t2 := s.take (wI .i64 ((andI .i64 n1.1 15) * 4)).toNat
            (check_Right t2).bind fun xr =>
            cond (!xr)
              (
              some ((ipfour_Head.mk 0 0 false 0 0 (api_Addr.mk false 0 0) (api_Addr.mk false 0 0) [], [], 4)))
              (
              (octet_Reader_Num n3.2 2).bind fun n4 =>
              (octet_Reader_Num n4.2 2).bind fun n5 =>
              cond ((andnI .i64 n5.1 16384) != 0)
                (
                some ((ipfour_Head.mk 0 0 false 0 0 (api_Addr.mk false 0 0) (api_Addr.mk false 0 0) [], [], 7)))
                (
                (octet_Reader_Num n5.2 1).bind fun n6 =>
                (octet_Reader_Num n6.2 1).bind fun n7 =>
                (octet_Reader_Num n7.2 2).bind fun n8 =>
                (ipfour_fields_address (ipfour_fields.mk n8.2)).bind fun a =>
                (ipfour_fields_address (ipfour_fields.mk a.2)).bind fun a1 =>
                let t3 := wI .i64 ((wI .i64 ((andI .i64 n1.1 15) * 4)) - 20)
                (octet_Reader_Text a1.2 t3).bind fun t4 =>
                let t5 := wI .i64 (n3.1 - (wI .i64 ((andI .i64 n1.1 15) * 4)))
                (octet_Reader_Text t4.2 t5).bind fun t6 =>
                some ((ipfour_Head.mk n2.1 n4.1 (n5.1 != 0) n6.1 n7.1 a.1 a1.1 t4.1, t6.1, 0)))))))))
def rx99 (x : ipfour_Head × (List UInt8) × Int) : SRes := ⟨.tuple ⟨[.agg ⟨[.int .i64 x.1.Class, .int .i64 x.1.Mark, .bool x.1.Whole, .int .i64 x.1.TTL, .int .i64 x.1.Proto, .bool x.1.Src.V6, .int .u64 x.1.Src.Hi, .int .u64 x.1.Src.Lo, .bool x.1.Dst.V6, .int .u64 x.1.Dst.Hi, .int .u64 x.1.Dst.Lo, .string ⟨⟨x.1.Options⟩⟩]⟩, .string ⟨⟨x.2.1⟩⟩, .int .i64 x.2.2]⟩, [], []⟩
def r99 (g : (List UInt8) → Option (ipfour_Head × (List UInt8) × Int)) : Dec := dV asS fun (y0 : List UInt8) => dEnd (ofG (g y0) rx99)
theorem r99_c {g : (List UInt8) → Option (ipfour_Head × (List UInt8) × Int)} {y0 : List UInt8} {x : ipfour_Head × (List UInt8) × Int} (hx : g y0 = some x) : r99 g [.string ⟨⟨y0⟩⟩] [] = some (rx99 x) := (dV_eq (asS_c)).trans (ofG_eq hx)
def s99 (g : (List UInt8) → Option (ipfour_Head × (List UInt8) × Int)) : Summ := ⟨[.v], r99 g⟩
theorem r99_eq {g : (List UInt8) → Option (ipfour_Head × (List UInt8) × Int)} {y0 : List UInt8} {x : ipfour_Head × (List UInt8) × Int} (hx : g y0 = some x) : (s99 g).run [.string ⟨⟨y0⟩⟩] [] = some (rx99 x) := r99_c hx
abbrev sums99 (check_Right : (List UInt8) → Option Bool) (ipfour_fields_address : ipfour_fields → Option (api_Addr × octet_Reader)) (octet_New : (List UInt8) → Option octet_Reader) (octet_Reader_Num : octet_Reader → Int → Option (Int × octet_Reader)) (octet_Reader_Text : octet_Reader → Int → Option ((List UInt8) × octet_Reader)) : List (Nat × Summ) := [(101, s101 check_Right), (116, s116 ipfour_fields_address), (103, s103 octet_New), (104, s104 octet_Reader_Num), (106, s106 octet_Reader_Text)]
theorem leads99 (check_Right : (List UInt8) → Option Bool) (ipfour_fields_address : ipfour_fields → Option (api_Addr × octet_Reader)) (octet_New : (List UInt8) → Option octet_Reader) (octet_Reader_Num : octet_Reader → Int → Option (Int × octet_Reader)) (octet_Reader_Text : octet_Reader → Int → Option ((List UInt8) × octet_Reader)) (hS : SumsOK Try.prog (aget (sums99 check_Right ipfour_fields_address octet_New octet_Reader_Num octet_Reader_Text))) (s : List UInt8) (res : ipfour_Head × (List UInt8) × Int) (h : ipfour_GetF check_Right ipfour_fields_address octet_New octet_Reader_Num octet_Reader_Text s = some res) :
    Leads Try.prog 99 0 ⟨⟨99, 102, [(0, .string ⟨⟨s⟩⟩)], [.code k99_54], [], false, none⟩, [], [], 0⟩ (fun v H _ => Res 0 (rx99 res) v H) := by
  unfold ipfour_GetF at h
  refine ev_ok tab_ok hS true 3000 ?_
  conv => whnf
  refine br.h h ?_ ?_ ?_
  · rfl
  · clear h; intro hb h; conv => whnf
    all_goals (cases h; exact Res.z rfl rfl rfl)
  clear h; intro hb h; conv => whnf
  replace h := obind.elim h; obtain ⟨n, hy, h⟩ := h
  refine sumK.introF [1] (sumRun_of (aqs := [.string ⟨⟨s⟩⟩]) (ws := []) (n := 1) (m := 0) (t' := 2) (ra_cons rfl rfl ra_nil) rfl (by rfl) (r103_eq hy) rfl rfl rfl rfl wb_nil (an_cons (rfl) an_nil) rfl) ?_
  conv => whnf
  replace h := obind.elim h; obtain ⟨n1, hy, h⟩ := h
  refine sumK.introF [1] (sumRun_of (aqs := [.pointer (some ⟨0, 0, none⟩), .int .i64 1]) (ws := [.win 1 0 3 true]) (n := 0) (m := 0) (t' := 3) (ra_cons rfl rfl (ra_cons rfl rfl ra_nil)) rfl (by rfl) (r104_eq hy) rfl rfl rfl rfl (wb_win rfl rfl rfl ⟨rfl, Nat.le_of_ble_eq_true rfl⟩ rfl rfl wb_nil) an_nil rfl) ?_
  conv => whnf
  replace h := obind.elim h; obtain ⟨n2, hy, h⟩ := h
  refine sumK.introF [1] (sumRun_of (aqs := [.pointer (some ⟨0, 0, none⟩), .int .i64 1]) (ws := [.win 1 0 3 true]) (n := 0) (m := 0) (t' := 3) (ra_cons rfl rfl (ra_cons rfl rfl ra_nil)) rfl (by rfl) (r104_eq hy) rfl rfl rfl rfl (wb_win rfl rfl rfl ⟨rfl, Nat.le_of_ble_eq_true rfl⟩ rfl rfl wb_nil) an_nil rfl) ?_
  conv => whnf
  replace h := obind.elim h; obtain ⟨n3, hy, h⟩ := h
  refine sumK.introF [1] (sumRun_of (aqs := [.pointer (some ⟨0, 0, none⟩), .int .i64 2]) (ws := [.win 1 0 3 true]) (n := 0) (m := 0) (t' := 4) (ra_cons rfl rfl (ra_cons rfl rfl ra_nil)) rfl (by rfl) (r104_eq hy) rfl rfl rfl rfl (wb_win rfl rfl rfl ⟨rfl, Nat.le_of_ble_eq_true rfl⟩ rfl rfl wb_nil) an_nil rfl) ?_
  conv => whnf
  refine br.h h ?_ ?_ ?_
  · rfl
  · clear h; intro hb h; conv => whnf
    all_goals (cases h; exact Res.z rfl rfl rfl)
  clear h; intro hb h; conv => whnf
  let t : Bool := decide ((wI .i64 ((andI .i64 n1.1 15) * 4)) < 20)
  refine br.h h ?_ ?_ ?_
  · rfl
  · clear h; intro hb h; conv => whnf
    all_goals (cases h; exact Res.z rfl rfl rfl)
  clear h; intro hb h; conv => whnf
  let t1 : Bool := decide (n3.1 < (wI .i64 ((andI .i64 n1.1 15) * 4)))
  refine br.h h ?_ ?_ ?_
  · rfl
  · clear h; intro hb h; conv => whnf
    all_goals (cases h; exact Res.z rfl rfl rfl)
  clear h; intro hb h; conv => whnf
  refine br.h h ?_ ?_ ?_
  · rfl
  · clear h; intro hb h; conv => whnf
    all_goals (cases h; exact Res.z rfl rfl rfl)
  clear h; intro hb h; conv => whnf
  replace h := oreq.elim h; obtain ⟨hb, h⟩ := h
  first | (refine req.intro hb ?_; conv => whnf) | skip
  let t2 : List UInt8 := s.take (wI .i64 ((andI .i64 n1.1 15) * 4)).toNat
  replace h := obind.elim h; obtain ⟨xr, hy, h⟩ := h
  refine sumK.q rfl rfl (r101_eq hy) rfl rfl rfl ?_
  conv => whnf
  refine br.h h ?_ ?_ ?_
  · rfl
  · clear h; intro hb h; conv => whnf
    all_goals (cases h; exact Res.z rfl rfl rfl)
  clear h; intro hb h; conv => whnf
  replace h := obind.elim h; obtain ⟨n4, hy, h⟩ := h
  refine sumK.introF [1] (sumRun_of (aqs := [.pointer (some ⟨0, 0, none⟩), .int .i64 2]) (ws := [.win 1 0 3 true]) (n := 0) (m := 0) (t' := 4) (ra_cons rfl rfl (ra_cons rfl rfl ra_nil)) rfl (by rfl) (r104_eq hy) rfl rfl rfl rfl (wb_win rfl rfl rfl ⟨rfl, Nat.le_of_ble_eq_true rfl⟩ rfl rfl wb_nil) an_nil rfl) ?_
  conv => whnf
  replace h := obind.elim h; obtain ⟨n5, hy, h⟩ := h
  refine sumK.introF [1] (sumRun_of (aqs := [.pointer (some ⟨0, 0, none⟩), .int .i64 2]) (ws := [.win 1 0 3 true]) (n := 0) (m := 0) (t' := 4) (ra_cons rfl rfl (ra_cons rfl rfl ra_nil)) rfl (by rfl) (r104_eq hy) rfl rfl rfl rfl (wb_win rfl rfl rfl ⟨rfl, Nat.le_of_ble_eq_true rfl⟩ rfl rfl wb_nil) an_nil rfl) ?_
  conv => whnf
  refine br.h h ?_ ?_ ?_
  · rfl
  · clear h; intro hb h; conv => whnf
    all_goals (cases h; exact Res.z rfl rfl rfl)
  clear h; intro hb h; conv => whnf
  replace h := obind.elim h; obtain ⟨n6, hy, h⟩ := h
  refine sumK.introF [1] (sumRun_of (aqs := [.pointer (some ⟨0, 0, none⟩), .int .i64 1]) (ws := [.win 1 0 3 true]) (n := 0) (m := 0) (t' := 6) (ra_cons rfl rfl (ra_cons rfl rfl ra_nil)) rfl (by rfl) (r104_eq hy) rfl rfl rfl rfl (wb_win rfl rfl rfl ⟨rfl, Nat.le_of_ble_eq_true rfl⟩ rfl rfl wb_nil) an_nil rfl) ?_
  conv => whnf
  replace h := obind.elim h; obtain ⟨n7, hy, h⟩ := h
  refine sumK.introF [1] (sumRun_of (aqs := [.pointer (some ⟨0, 0, none⟩), .int .i64 1]) (ws := [.win 1 0 3 true]) (n := 0) (m := 0) (t' := 9) (ra_cons rfl rfl (ra_cons rfl rfl ra_nil)) rfl (by rfl) (r104_eq hy) rfl rfl rfl rfl (wb_win rfl rfl rfl ⟨rfl, Nat.le_of_ble_eq_true rfl⟩ rfl rfl wb_nil) an_nil rfl) ?_
  conv => whnf
  replace h := obind.elim h; obtain ⟨n8, hy, h⟩ := h
  refine sumK.introF [1] (sumRun_of (aqs := [.pointer (some ⟨0, 0, none⟩), .int .i64 2]) (ws := [.win 1 0 3 true]) (n := 0) (m := 0) (t' := 11) (ra_cons rfl rfl (ra_cons rfl rfl ra_nil)) rfl (by rfl) (r104_eq hy) rfl rfl rfl rfl (wb_win rfl rfl rfl ⟨rfl, Nat.le_of_ble_eq_true rfl⟩ rfl rfl wb_nil) an_nil rfl) ?_
  conv => whnf
  replace h := obind.elim h; obtain ⟨a, hy, h⟩ := h
  refine sumK.introF [1] (sumRun_of (aqs := [.agg ⟨[.pointer (some ⟨0, 0, none⟩)]⟩]) (ws := [.blk 1 true]) (n := 0) (m := 0) (t' := 12) (ra_cons (ra_tr rfl rfl (vp_at rfl rfl rfl rfl vp_nil) rfl) rfl ra_nil) rfl (by rfl) (r116_eq hy) rfl rfl rfl rfl (wb_blk rfl rfl rfl rfl wb_nil) an_nil rfl) ?_
  conv => whnf
  replace h := obind.elim h; obtain ⟨a1, hy, h⟩ := h
  refine sumK.introF [1] (sumRun_of (aqs := [.agg ⟨[.pointer (some ⟨0, 0, none⟩)]⟩]) (ws := [.blk 1 true]) (n := 0) (m := 0) (t' := 14) (ra_cons (ra_tr rfl rfl (vp_at rfl rfl rfl rfl vp_nil) rfl) rfl ra_nil) rfl (by rfl) (r116_eq hy) rfl rfl rfl rfl (wb_blk rfl rfl rfl rfl wb_nil) an_nil rfl) ?_
  conv => whnf
  let t3 : Int := wI .i64 ((wI .i64 ((andI .i64 n1.1 15) * 4)) - 20)
  replace h := obind.elim h; obtain ⟨t4, hy, h⟩ := h
  refine sumK.introF [1] (sumRun_of (aqs := [.pointer (some ⟨0, 0, none⟩), .int .i64 t3]) (ws := [.win 1 0 3 true]) (n := 0) (m := 0) (t' := 16) (ra_cons rfl rfl (ra_cons rfl rfl ra_nil)) rfl (by rfl) (r106_eq hy) rfl rfl rfl rfl (wb_win rfl rfl rfl ⟨rfl, Nat.le_of_ble_eq_true rfl⟩ rfl rfl wb_nil) an_nil rfl) ?_
  conv => whnf
  let t5 : Int := wI .i64 (n3.1 - (wI .i64 ((andI .i64 n1.1 15) * 4)))
  replace h := obind.elim h; obtain ⟨t6, hy, h⟩ := h
  refine sumK.introF [1] (sumRun_of (aqs := [.pointer (some ⟨0, 0, none⟩), .int .i64 t5]) (ws := [.win 1 0 3 true]) (n := 0) (m := 0) (t' := 22) (ra_cons rfl rfl (ra_cons rfl rfl ra_nil)) rfl (by rfl) (r106_eq hy) rfl rfl rfl rfl (wb_win rfl rfl rfl ⟨rfl, Nat.le_of_ble_eq_true rfl⟩ rfl rfl wb_nil) an_nil rfl) ?_
  conv => whnf
  all_goals (cases h; exact Res.z rfl rfl rfl)
theorem ok99 (check_Right : (List UInt8) → Option Bool) (ipfour_fields_address : ipfour_fields → Option (api_Addr × octet_Reader)) (octet_New : (List UInt8) → Option octet_Reader) (octet_Reader_Num : octet_Reader → Int → Option (Int × octet_Reader)) (octet_Reader_Text : octet_Reader → Int → Option ((List UInt8) × octet_Reader)) (hS : SumsOK Try.prog (aget (sums99 check_Right ipfour_fields_address octet_New octet_Reader_Num octet_Reader_Text))) : SumOK Try.prog 99 (s99 (ipfour_GetF check_Right ipfour_fields_address octet_New octet_Reader_Num octet_Reader_Text)) := by
  refine SumOK.of_leads tab_ok (fun ar os r ha hr => ?_) ⟨Try.f99, rfl, by decide, rfl⟩
  replace hr : r99 (ipfour_GetF check_Right ipfour_fields_address octet_New octet_Reader_Num octet_Reader_Text) ar (conts os) = some r := hr
  unfold r99 at hr
  generalize hc : conts os = C at hr
  replace hr := dV.elim hr; obtain ⟨v0, l1, y0, rfl, e0, hr⟩ := hr; obtain rfl := asS_eq _ _ e0
  replace hr := dFin hr; obtain ⟨rfl, rfl, x, h, rfl⟩ := hr
  obtain rfl := kinds_nil hc
  exact ⟨_, rfl, leads99 check_Right ipfour_fields_address octet_New octet_Reader_Num octet_Reader_Text hS _ x h⟩
def ipfour_Get : (List UInt8) → Option (ipfour_Head × (List UInt8) × Int) := ipfour_GetF check_Right ipfour_fields_address octet_New octet_Reader_Num octet_Reader_Text
theorem lift99 : SumOK Try.prog 99 (s99 ipfour_Get) := ok99 check_Right ipfour_fields_address octet_New octet_Reader_Num octet_Reader_Text (SumsOK.of_tab ⟨lift101, lift116, lift103, lift104, lift106, trivial⟩)
end Go.Vm.Code
namespace Go.Vm.Code
open Go Go.Vm
def zero5 : ipfour_Head := ⟨0, 0, false, 0, 0, ⟨false, 0, 0⟩, ⟨false, 0, 0⟩, []⟩
def get5 (s : List UInt8) : ipfour_Head × List UInt8 × Int :=
  if s.length < 20 then (zero5, [], 2) else if vK s 0 1 / 16 ≠ 4 then (zero5, [], 3) else if vK s 0 1 % 16 * 4 < 20 then (zero5, [], 3) else if vK s 2 2 < vK s 0 1 % 16 * 4 then (zero5, [], 3) else if (s.length : Int) < vK s 2 2 then (zero5, [], 2) else
    if norm (wsum (s.take (vK s 0 1 % 16 * 4).toNat)) ≠ 65535 then (zero5, [], 4) else if vK s 6 2 ≠ 0 ∧ vK s 6 2 ≠ 16384 then (zero5, [], 7) else
      (⟨vK s 1 1, vK s 4 2, vK s 6 2 != 0, vK s 8 1, vK s 9 1, adr4 s 12, adr4 s 16, (s.drop 20).take ((vK s 0 1 % 16 * 4).toNat - 20)⟩, (s.drop (vK s 0 1 % 16 * 4).toNat).take ((vK s 2 2).toNat - (vK s 0 1 % 16 * 4).toNat), 0)
theorem vK_sub (s : List UInt8) (p : Nat) : vK ((s.drop p).take 4) 0 4 = vK s p 4 := by unfold vK; simp [List.take_take]
theorem faddr {s : List UInt8} {p : Nat} (h : p + 4 ≤ s.length) : ipfour_fields_address ⟨⟨s.drop p, true, false⟩⟩ = some (adr4 s p, ⟨s.drop (p + 4), true, false⟩) := by
  unfold ipfour_fields_address ipfour_fields_addressF
  rw [show (4 : Int) = ((4 : Nat) : Int) from rfl, text_at h, Option.bind_some, aget4 (by simp; omega), Option.bind_some, vK_sub]; rfl
theorem g5_eq {s : List UInt8} (hs : s.length < 2 ^ 38) : ipfour_Get s = some (get5 s) := by
  unfold ipfour_Get ipfour_GetF get5
  by_cases h0 : s.length < 20
  · rw [cond_p (by omega), if_pos h0]; rfl
  rw [cond_n (by omega), if_neg h0, rNew_eq, Option.bind_some]
  have N : ∀ (p k : Nat), 1 ≤ k → k ≤ 7 → p + k ≤ 20 → octet_Reader_Num ⟨s.drop p, true, false⟩ (k : Int) = some (vK s p k, ⟨s.drop (p + k), true, false⟩) := fun p k a b c => num_at a b (by omega) (by omega)
  have N0 : octet_Reader_Num ⟨s, true, false⟩ 1 = some (vK s 0 1, ⟨s.drop 1, true, false⟩) := N 0 1 (by omega) (by omega) (by omega)
  have N1 : octet_Reader_Num ⟨s.drop 1, true, false⟩ 1 = some (vK s 1 1, ⟨s.drop 2, true, false⟩) := N 1 1 (by omega) (by omega) (by omega)
  have N2 : octet_Reader_Num ⟨s.drop 2, true, false⟩ 2 = some (vK s 2 2, ⟨s.drop 4, true, false⟩) := N 2 2 (by omega) (by omega) (by omega)
  have N4 : octet_Reader_Num ⟨s.drop 4, true, false⟩ 2 = some (vK s 4 2, ⟨s.drop 6, true, false⟩) := N 4 2 (by omega) (by omega) (by omega)
  have N6 : octet_Reader_Num ⟨s.drop 6, true, false⟩ 2 = some (vK s 6 2, ⟨s.drop 8, true, false⟩) := N 6 2 (by omega) (by omega) (by omega)
  have N8 : octet_Reader_Num ⟨s.drop 8, true, false⟩ 1 = some (vK s 8 1, ⟨s.drop 9, true, false⟩) := N 8 1 (by omega) (by omega) (by omega)
  have N9 : octet_Reader_Num ⟨s.drop 9, true, false⟩ 1 = some (vK s 9 1, ⟨s.drop 10, true, false⟩) := N 9 1 (by omega) (by omega) (by omega)
  have N10 : octet_Reader_Num ⟨s.drop 10, true, false⟩ 2 = some (vK s 10 2, ⟨s.drop 12, true, false⟩) := N 10 2 (by omega) (by omega) (by omega)
  rw [N0, Option.bind_some, N1, Option.bind_some, N2, Option.bind_some]
  simp only []
  rw [N4]
  simp only [Option.bind_some]
  rw [N6, fdivP, show ((2 : Int) ^ 4) = 16 from rfl]
  have r0 := vK_rng s 0 1 256 (by decide)
  have r2 := vK_rng s 2 2 65536 (by decide)
  have ea : andI .i64 (vK s 0 1) 15 = vK s 0 1 % 16 := andI64_mask 4 rfl (by omega) (by omega) (by omega)
  rw [ea, wI64 (n := vK s 0 1 % 16 * 4) (by omega) (by omega)]
  have hz : (⟨0, 0, false, 0, 0, ⟨false, 0, 0⟩, ⟨false, 0, 0⟩, []⟩ : ipfour_Head) = zero5 := rfl
  rw [hz]
  by_cases g1 : vK s 0 1 / 16 = 4
  · rw [show (vK s 0 1 / 16 != 4) = false by simpa using g1, cond_false, if_neg (by simpa using g1)]
    obtain ⟨t, ht⟩ := Int.eq_ofNat_of_zero_le (show 0 ≤ vK s 0 1 % 16 * 4 by omega)
    rw [ht]
    simp only [Option.bind_some, Int.toNat_natCast]
    by_cases g2 : (t : Int) < 20
    · rw [cond_p g2, if_pos g2]
    rw [cond_n g2, if_neg g2]
    by_cases g3 : vK s 2 2 < t
    · rw [cond_p g3, if_pos g3]
    rw [cond_n g3, if_neg g3]
    by_cases g4 : (s.length : Int) < vK s 2 2
    · rw [cond_p (by omega), if_pos g4]
    rw [cond_n (by omega), if_neg g4, oreq_p (by omega), Right_eq (by simp; omega), Option.bind_some]
    by_cases g5 : norm (wsum (s.take t)) = 65535
    · rw [if_neg (by simpa using g5), g5]
      simp only [show ((((65535 : Nat) : Int) == 65535)) = true from rfl, Bool.not_true, cond_false]
      have e6 := vK_two (s := s) (p := 6) (by omega)
      rw [show (andnI .i64 (vK s 6 2) 16384 != 0) = decide (vK s 6 2 ≠ 0 ∧ vK s 6 2 ≠ 16384) by rw [e6]; exact andn_flag, cond_dec]
      split
      · rfl
      obtain ⟨m, hm⟩ := Int.eq_ofNat_of_zero_le r2.1
      rw [N8, Option.bind_some, N9, Option.bind_some, N10, Option.bind_some, faddr (by omega), Option.bind_some, faddr (by omega), Option.bind_some, wI64 (n := (t : Int) - 20) (by omega) (by omega), hm, wI64 (n := (m : Int) - t) (by omega) (by omega)]
      simp only []
      rw [show (t : Int) - 20 = ((t - 20 : Nat) : Int) by omega, show (m : Int) - t = ((m - t : Nat) : Int) by omega, text_at (by omega), Option.bind_some]
      simp only []
      rw [text_at (by omega), Option.bind_some, show 12 + 4 + 4 + (t - 20) = t by omega, Int.toNat_natCast]
    · rw [if_pos (by simpa using g5), show ((((norm (wsum (s.take t)) : Nat) : Int) == 65535)) = false by simp; omega]; rfl
  · rw [show (vK s 0 1 / 16 != 4) = true by simpa using g1, cond_true, if_pos (by simpa using g1)]
end Go.Vm.Code
namespace Go.Vm.Code
open Go Go.Vm Go.Proofs
set_option maxRecDepth 100000
set_option maxHeartbeats 4000000
set_option linter.unusedVariables false
def ipsix_GetF (addr_Get : (List UInt8) → Option (api_Addr × Bool)) (octet_New : (List UInt8) → Option octet_Reader) (octet_Reader_Bad : octet_Reader → Option (Bool × octet_Reader)) (octet_Reader_Num : octet_Reader → Int → Option (Int × octet_Reader)) (octet_Reader_Text : octet_Reader → Int → Option ((List UInt8) × octet_Reader)) (s : List UInt8) : Option (ipsix_Head × (List UInt8) × Int) :=
  (octet_New s).bind fun n =>
  (octet_Reader_Num n 4).bind fun n1 =>
  (octet_Reader_Num n1.2 2).bind fun n2 =>
  (octet_Reader_Num n2.2 1).bind fun n3 =>
  (octet_Reader_Num n3.2 1).bind fun n4 =>
  (octet_Reader_Text n4.2 16).bind fun t =>
  (octet_Reader_Text t.2 16).bind fun t1 =>
  (octet_Reader_Bad t1.2).bind fun b =>
  cond (b.1)
    (
    some ((ipsix_Head.mk 0 0 0 0 (api_Addr.mk false 0 0) (api_Addr.mk false 0 0), [], 2)))
    (
    cond ((n1.1.fdiv (2 ^ 28)) != 6)
      (
      some ((ipsix_Head.mk 0 0 0 0 (api_Addr.mk false 0 0) (api_Addr.mk false 0 0), [], 3)))
      (
      (addr_Get t.1).bind fun xg =>
      (addr_Get t1.1).bind fun xg1 =>
      (octet_Reader_Text b.2 n2.1).bind fun t2 =>
      (octet_Reader_Bad t2.2).bind fun b1 =>
      cond (b1.1)
        (
        some ((ipsix_Head.mk 0 0 0 0 (api_Addr.mk false 0 0) (api_Addr.mk false 0 0), [], 2)))
        (
        some ((ipsix_Head.mk (andI .i64 (n1.1.fdiv (2 ^ 20)) 255) (andI .i64 n1.1 1048575) n3.1 n4.1 xg.1 xg1.1, t2.1, 0)))))
def rx100 (x : ipsix_Head × (List UInt8) × Int) : SRes := ⟨.tuple ⟨[.agg ⟨[.int .i64 x.1.Class, .int .i64 x.1.Label, .int .i64 x.1.Next, .int .i64 x.1.Hop, .bool x.1.Src.V6, .int .u64 x.1.Src.Hi, .int .u64 x.1.Src.Lo, .bool x.1.Dst.V6, .int .u64 x.1.Dst.Hi, .int .u64 x.1.Dst.Lo]⟩, .string ⟨⟨x.2.1⟩⟩, .int .i64 x.2.2]⟩, [], []⟩
def r100 (g : (List UInt8) → Option (ipsix_Head × (List UInt8) × Int)) : Dec := dV asS fun (y0 : List UInt8) => dEnd (ofG (g y0) rx100)
theorem r100_c {g : (List UInt8) → Option (ipsix_Head × (List UInt8) × Int)} {y0 : List UInt8} {x : ipsix_Head × (List UInt8) × Int} (hx : g y0 = some x) : r100 g [.string ⟨⟨y0⟩⟩] [] = some (rx100 x) := (dV_eq (asS_c)).trans (ofG_eq hx)
def s100 (g : (List UInt8) → Option (ipsix_Head × (List UInt8) × Int)) : Summ := ⟨[.v], r100 g⟩
theorem r100_eq {g : (List UInt8) → Option (ipsix_Head × (List UInt8) × Int)} {y0 : List UInt8} {x : ipsix_Head × (List UInt8) × Int} (hx : g y0 = some x) : (s100 g).run [.string ⟨⟨y0⟩⟩] [] = some (rx100 x) := r100_c hx
abbrev sums100 (addr_Get : (List UInt8) → Option (api_Addr × Bool)) (octet_New : (List UInt8) → Option octet_Reader) (octet_Reader_Bad : octet_Reader → Option (Bool × octet_Reader)) (octet_Reader_Num : octet_Reader → Int → Option (Int × octet_Reader)) (octet_Reader_Text : octet_Reader → Int → Option ((List UInt8) × octet_Reader)) : List (Nat × Summ) := [(117, s117 addr_Get), (103, s103 octet_New), (105, s105 octet_Reader_Bad), (104, s104 octet_Reader_Num), (106, s106 octet_Reader_Text)]
theorem leads100 (addr_Get : (List UInt8) → Option (api_Addr × Bool)) (octet_New : (List UInt8) → Option octet_Reader) (octet_Reader_Bad : octet_Reader → Option (Bool × octet_Reader)) (octet_Reader_Num : octet_Reader → Int → Option (Int × octet_Reader)) (octet_Reader_Text : octet_Reader → Int → Option ((List UInt8) × octet_Reader)) (hS : SumsOK Try.prog (aget (sums100 addr_Get octet_New octet_Reader_Bad octet_Reader_Num octet_Reader_Text))) (s : List UInt8) (res : ipsix_Head × (List UInt8) × Int) (h : ipsix_GetF addr_Get octet_New octet_Reader_Bad octet_Reader_Num octet_Reader_Text s = some res) :
    Leads Try.prog 100 0 ⟨⟨100, 59, [(0, .string ⟨⟨s⟩⟩)], [.code k100_35], [], false, none⟩, [], [], 0⟩ (fun v H _ => Res 0 (rx100 res) v H) := by
  unfold ipsix_GetF at h
  refine ev_ok tab_ok hS true 3000 ?_
  conv => whnf
  replace h := obind.elim h; obtain ⟨n, hy, h⟩ := h
  refine sumK.introF [1] (sumRun_of (aqs := [.string ⟨⟨s⟩⟩]) (ws := []) (n := 1) (m := 0) (t' := 2) (ra_cons rfl rfl ra_nil) rfl (by rfl) (r103_eq hy) rfl rfl rfl rfl wb_nil (an_cons (rfl) an_nil) rfl) ?_
  conv => whnf
  replace h := obind.elim h; obtain ⟨n1, hy, h⟩ := h
  refine sumK.introF [1] (sumRun_of (aqs := [.pointer (some ⟨0, 0, none⟩), .int .i64 4]) (ws := [.win 1 0 3 true]) (n := 0) (m := 0) (t' := 2) (ra_cons rfl rfl (ra_cons rfl rfl ra_nil)) rfl (by rfl) (r104_eq hy) rfl rfl rfl rfl (wb_win rfl rfl rfl ⟨rfl, Nat.le_of_ble_eq_true rfl⟩ rfl rfl wb_nil) an_nil rfl) ?_
  conv => whnf
  replace h := obind.elim h; obtain ⟨n2, hy, h⟩ := h
  refine sumK.introF [1] (sumRun_of (aqs := [.pointer (some ⟨0, 0, none⟩), .int .i64 2]) (ws := [.win 1 0 3 true]) (n := 0) (m := 0) (t' := 2) (ra_cons rfl rfl (ra_cons rfl rfl ra_nil)) rfl (by rfl) (r104_eq hy) rfl rfl rfl rfl (wb_win rfl rfl rfl ⟨rfl, Nat.le_of_ble_eq_true rfl⟩ rfl rfl wb_nil) an_nil rfl) ?_
  conv => whnf
  replace h := obind.elim h; obtain ⟨n3, hy, h⟩ := h
  refine sumK.introF [1] (sumRun_of (aqs := [.pointer (some ⟨0, 0, none⟩), .int .i64 1]) (ws := [.win 1 0 3 true]) (n := 0) (m := 0) (t' := 2) (ra_cons rfl rfl (ra_cons rfl rfl ra_nil)) rfl (by rfl) (r104_eq hy) rfl rfl rfl rfl (wb_win rfl rfl rfl ⟨rfl, Nat.le_of_ble_eq_true rfl⟩ rfl rfl wb_nil) an_nil rfl) ?_
  conv => whnf
  replace h := obind.elim h; obtain ⟨n4, hy, h⟩ := h
  refine sumK.introF [1] (sumRun_of (aqs := [.pointer (some ⟨0, 0, none⟩), .int .i64 1]) (ws := [.win 1 0 3 true]) (n := 0) (m := 0) (t' := 2) (ra_cons rfl rfl (ra_cons rfl rfl ra_nil)) rfl (by rfl) (r104_eq hy) rfl rfl rfl rfl (wb_win rfl rfl rfl ⟨rfl, Nat.le_of_ble_eq_true rfl⟩ rfl rfl wb_nil) an_nil rfl) ?_
  conv => whnf
  replace h := obind.elim h; obtain ⟨t, hy, h⟩ := h
  refine sumK.introF [1] (sumRun_of (aqs := [.pointer (some ⟨0, 0, none⟩), .int .i64 16]) (ws := [.win 1 0 3 true]) (n := 0) (m := 0) (t' := 3) (ra_cons rfl rfl (ra_cons rfl rfl ra_nil)) rfl (by rfl) (r106_eq hy) rfl rfl rfl rfl (wb_win rfl rfl rfl ⟨rfl, Nat.le_of_ble_eq_true rfl⟩ rfl rfl wb_nil) an_nil rfl) ?_
  conv => whnf
  replace h := obind.elim h; obtain ⟨t1, hy, h⟩ := h
  refine sumK.introF [1] (sumRun_of (aqs := [.pointer (some ⟨0, 0, none⟩), .int .i64 16]) (ws := [.win 1 0 3 true]) (n := 0) (m := 0) (t' := 3) (ra_cons rfl rfl (ra_cons rfl rfl ra_nil)) rfl (by rfl) (r106_eq hy) rfl rfl rfl rfl (wb_win rfl rfl rfl ⟨rfl, Nat.le_of_ble_eq_true rfl⟩ rfl rfl wb_nil) an_nil rfl) ?_
  conv => whnf
  replace h := obind.elim h; obtain ⟨b, hy, h⟩ := h
  refine sumK.introF [1] (sumRun_of (aqs := [.pointer (some ⟨0, 0, none⟩)]) (ws := [.win 1 0 3 true]) (n := 0) (m := 0) (t' := 3) (ra_cons rfl rfl ra_nil) rfl (by rfl) (r105_eq hy) rfl rfl rfl rfl (wb_win rfl rfl rfl ⟨rfl, Nat.le_of_ble_eq_true rfl⟩ rfl rfl wb_nil) an_nil rfl) ?_
  conv => whnf
  refine br.h h ?_ ?_ ?_
  · rfl
  · clear h; intro hb h; conv => whnf
    all_goals (cases h; exact Res.z rfl rfl rfl)
  clear h; intro hb h; conv => whnf
  refine br.h h ?_ ?_ ?_
  · rfl
  · clear h; intro hb h; conv => whnf
    all_goals (cases h; exact Res.z rfl rfl rfl)
  clear h; intro hb h; conv => whnf
  replace h := obind.elim h; obtain ⟨xg, hy, h⟩ := h
  refine sumK.q rfl rfl (r117_eq hy) rfl rfl rfl ?_
  conv => whnf
  replace h := obind.elim h; obtain ⟨xg1, hy, h⟩ := h
  refine sumK.q rfl rfl (r117_eq hy) rfl rfl rfl ?_
  conv => whnf
  replace h := obind.elim h; obtain ⟨t2, hy, h⟩ := h
  refine sumK.introF [1] (sumRun_of (aqs := [.pointer (some ⟨0, 0, none⟩), .int .i64 n2.1]) (ws := [.win 1 0 3 true]) (n := 0) (m := 0) (t' := 3) (ra_cons rfl rfl (ra_cons rfl rfl ra_nil)) rfl (by rfl) (r106_eq hy) rfl rfl rfl rfl (wb_win rfl rfl rfl ⟨rfl, Nat.le_of_ble_eq_true rfl⟩ rfl rfl wb_nil) an_nil rfl) ?_
  conv => whnf
  replace h := obind.elim h; obtain ⟨b1, hy, h⟩ := h
  refine sumK.introF [1] (sumRun_of (aqs := [.pointer (some ⟨0, 0, none⟩)]) (ws := [.win 1 0 3 true]) (n := 0) (m := 0) (t' := 3) (ra_cons rfl rfl ra_nil) rfl (by rfl) (r105_eq hy) rfl rfl rfl rfl (wb_win rfl rfl rfl ⟨rfl, Nat.le_of_ble_eq_true rfl⟩ rfl rfl wb_nil) an_nil rfl) ?_
  conv => whnf
  refine br.h h ?_ ?_ ?_
  · rfl
  · clear h; intro hb h; conv => whnf
    all_goals (cases h; exact Res.z rfl rfl rfl)
  clear h; intro hb h; conv => whnf
  all_goals (cases h; exact Res.z rfl rfl rfl)
theorem ok100 (addr_Get : (List UInt8) → Option (api_Addr × Bool)) (octet_New : (List UInt8) → Option octet_Reader) (octet_Reader_Bad : octet_Reader → Option (Bool × octet_Reader)) (octet_Reader_Num : octet_Reader → Int → Option (Int × octet_Reader)) (octet_Reader_Text : octet_Reader → Int → Option ((List UInt8) × octet_Reader)) (hS : SumsOK Try.prog (aget (sums100 addr_Get octet_New octet_Reader_Bad octet_Reader_Num octet_Reader_Text))) : SumOK Try.prog 100 (s100 (ipsix_GetF addr_Get octet_New octet_Reader_Bad octet_Reader_Num octet_Reader_Text)) := by
  refine SumOK.of_leads tab_ok (fun ar os r ha hr => ?_) ⟨Try.f100, rfl, by decide, rfl⟩
  replace hr : r100 (ipsix_GetF addr_Get octet_New octet_Reader_Bad octet_Reader_Num octet_Reader_Text) ar (conts os) = some r := hr
  unfold r100 at hr
  generalize hc : conts os = C at hr
  replace hr := dV.elim hr; obtain ⟨v0, l1, y0, rfl, e0, hr⟩ := hr; obtain rfl := asS_eq _ _ e0
  replace hr := dFin hr; obtain ⟨rfl, rfl, x, h, rfl⟩ := hr
  obtain rfl := kinds_nil hc
  exact ⟨_, rfl, leads100 addr_Get octet_New octet_Reader_Bad octet_Reader_Num octet_Reader_Text hS _ x h⟩
def ipsix_Get : (List UInt8) → Option (ipsix_Head × (List UInt8) × Int) := ipsix_GetF addr_Get octet_New octet_Reader_Bad octet_Reader_Num octet_Reader_Text
theorem lift100 : SumOK Try.prog 100 (s100 ipsix_Get) := ok100 addr_Get octet_New octet_Reader_Bad octet_Reader_Num octet_Reader_Text (SumsOK.of_tab ⟨lift117, lift103, lift105, lift104, lift106, trivial⟩)
end Go.Vm.Code
namespace Go.Vm.Code
open Go Go.Vm
def zero6 : ipsix_Head := ⟨0, 0, 0, 0, ⟨false, 0, 0⟩, ⟨false, 0, 0⟩⟩
def head6 (s : List UInt8) : ipsix_Head :=
  let m := valL (s.take 4)
  ⟨((m / 2 ^ 20 % 256 : Nat) : Int), ((m % 2 ^ 20 : Nat) : Int), ((valL ((s.drop 6).take 1) : Nat) : Int), ((valL ((s.drop 7).take 1) : Nat) : Int), addrG ((s.drop 8).take 16), addrG ((s.drop 24).take 16)⟩
def get6 (s : List UInt8) : ipsix_Head × List UInt8 × Int :=
  if s.length < 40 then (zero6, [], 2) else if valL (s.take 4) / 2 ^ 28 ≠ 6 then (zero6, [], 3) else if s.length - 40 < valL ((s.drop 4).take 2) then (zero6, [], 2) else
    (head6 s, (s.drop 40).take (valL ((s.drop 4).take 2)), 0)
theorem get6_eq {s : List UInt8} (h : s.length < 2 ^ 60) : ipsix_Get s = some (get6 s) := by
  unfold ipsix_Get ipsix_GetF
  rw [rNew_eq, Option.bind_some]
  by_cases hs : s.length < 40
  · have e : get6 s = (zero6, [], 2) := by unfold get6; rw [if_pos hs]
    rw [rNum_eq rfl (by simp only []; omega), Option.bind_some]
    simp only []
    have b1 : ∀ (r : octet_Reader) (k : Int), (rdr r k).s.length ≤ r.s.length := by intro r k; unfold rdr; split <;> simp
    have l1 := b1 ⟨s, true, false⟩ (if (4 : Int) < 1 ∨ (4 : Int) > 7 then -1 else 4)
    simp only at l1
    generalize hr1 : rdr ⟨s, true, false⟩ (if (4 : Int) < 1 ∨ (4 : Int) > 7 then -1 else 4) = r1 at *
    have m1 : r1.made = true := by rw [← hr1]; exact rdr_made _ _
    rw [rNum_eq m1 (by omega), Option.bind_some]
    simp only []
    have l2 := b1 r1 (if (2 : Int) < 1 ∨ (2 : Int) > 7 then -1 else 2)
    generalize hr2 : rdr r1 (if (2 : Int) < 1 ∨ (2 : Int) > 7 then -1 else 2) = r2 at *
    have m2 : r2.made = true := by rw [← hr2]; exact rdr_made _ _
    rw [rNum_eq m2 (by omega), Option.bind_some]
    simp only []
    have l3 := b1 r2 (if (1 : Int) < 1 ∨ (1 : Int) > 7 then -1 else 1)
    generalize hr3 : rdr r2 (if (1 : Int) < 1 ∨ (1 : Int) > 7 then -1 else 1) = r3 at *
    have m3 : r3.made = true := by rw [← hr3]; exact rdr_made _ _
    rw [rNum_eq m3 (by omega), Option.bind_some]
    simp only []
    have l4 := b1 r3 (if (1 : Int) < 1 ∨ (1 : Int) > 7 then -1 else 1)
    generalize hr4 : rdr r3 (if (1 : Int) < 1 ∨ (1 : Int) > 7 then -1 else 1) = r4 at *
    have m4 : r4.made = true := by rw [← hr4]; exact rdr_made _ _
    rw [rText_eq m4, Option.bind_some]
    simp only []
    generalize hr5 : rdr r4 16 = r5 at *
    have m5 : r5.made = true := by rw [← hr5]; exact rdr_made _ _
    rw [rText_eq m5, Option.bind_some]
    simp only []
    generalize hr6 : rdr r5 16 = r6 at *
    have m6 : r6.made = true := by rw [← hr6]; exact rdr_made _ _
    rw [rBad_eq m6, Option.bind_some]
    have hb : r6.bad = true := by
      cases hb : r6.bad with
      | true => rfl
      | false =>
        exfalso
        obtain ⟨a5, n6⟩ := rdr_step hr6 hb
        obtain ⟨a4, n5⟩ := rdr_step hr5 a5
        obtain ⟨a3, n4⟩ := rdr_step hr4 a4
        obtain ⟨a2, n3⟩ := rdr_step hr3 a3
        obtain ⟨a1, n2⟩ := rdr_step hr2 a2
        obtain ⟨a0, n1⟩ := rdr_step hr1 a1
        rw [show (if (4 : Int) < 1 ∨ (4 : Int) > 7 then -1 else 4 : Int) = 4 by decide] at n1
        simp only at n1
        omega
    simp only [hb, cond_true]
    rw [e]; rfl
  · have i4 : (if (4 : Int) < 1 ∨ (4 : Int) > 7 then -1 else 4 : Int) = 4 := by decide
    have i2 : (if (2 : Int) < 1 ∨ (2 : Int) > 7 then -1 else 2 : Int) = 2 := by decide
    have i1 : (if (1 : Int) < 1 ∨ (1 : Int) > 7 then -1 else 1 : Int) = 1 := by decide
    have t4 : (4 : Int).toNat = 4 := rfl
    have t2 : (2 : Int).toNat = 2 := rfl
    have t1 : (1 : Int).toNat = 1 := rfl
    have t16 : (16 : Int).toNat = 16 := rfl
    rw [rNum_eq rfl (by simp only []; omega), Option.bind_some]
    simp only [rdn, i4]
    rw [rdr_ok (by omega) (by omega), rdt_ok (by omega) (by omega), t4]
    rw [rNum_eq rfl (by simp; omega), Option.bind_some]
    simp only [rdn, i2]
    rw [rdr_ok (by omega) (by simp; omega), rdt_ok (by omega) (by simp; omega), t2, List.drop_drop]
    rw [rNum_eq rfl (by simp; omega), Option.bind_some]
    simp only [rdn, i1]
    rw [rdr_ok (by omega) (by simp; omega), rdt_ok (by omega) (by simp; omega), t1, List.drop_drop]
    rw [rNum_eq rfl (by simp; omega), Option.bind_some]
    simp only [rdn, i1]
    rw [rdr_ok (by omega) (by simp; omega), rdt_ok (by omega) (by simp; omega), t1, List.drop_drop]
    rw [rText_eq rfl, Option.bind_some]
    simp only []
    rw [rdr_ok (by omega) (by simp; omega), rdt_ok (by omega) (by simp; omega), t16, List.drop_drop]
    rw [rText_eq rfl, Option.bind_some]
    simp only []
    rw [rdr_ok (by omega) (by simp; omega), rdt_ok (by omega) (by simp; omega), t16, List.drop_drop]
    rw [rBad_eq rfl, Option.bind_some]
    simp only [cond_false, Nat.reduceAdd]
    have v4 : valL (s.take 4) < 2 ^ 32 := val_take_lt _ (by decide)
    have v2 : valL ((s.drop 4).take 2) < 2 ^ 16 := val_take_lt _ (by decide)
    unfold get6
    rw [if_neg hs]
    have e1 : ((((valL (s.take 4) : Nat) : Int).fdiv (2 ^ 28)) != 6) = decide (valL (s.take 4) / 2 ^ 28 ≠ 6) := by
      rw [fdivP, Bool.eq_iff_iff, bne_iff_ne, decide_eq_true_eq]; omega
    rw [e1]
    by_cases h6 : valL (s.take 4) / 2 ^ 28 ≠ 6
    · rw [cond_p h6, if_pos h6]; rfl
    rw [cond_n h6, if_neg h6]
    rw [addr_Get16 (by simp; omega), addr_Get16 (by simp; omega)]
    simp only [Option.bind_some]
    rw [rText_eq rfl, Option.bind_some]
    by_cases hn : s.length - 40 < valL ((s.drop 4).take 2)
    · rw [rBad_eq (rdr_made _ _), Option.bind_some]
      have hb : (rdr ⟨s.drop 40, true, false⟩ ((valL ((s.drop 4).take 2) : Nat) : Int)).bad = true := by
        cases hb : (rdr ⟨s.drop 40, true, false⟩ ((valL ((s.drop 4).take 2) : Nat) : Int)).bad with
        | true => rfl
        | false =>
          exfalso
          obtain ⟨_, _, c⟩ := rdr_bad.1 hb
          simp at c; omega
      simp only [hb, cond_true]
      rw [if_pos hn]; rfl
    · rw [rdr_ok (by omega) (by simp; omega), rdt_ok (by omega) (by simp; omega), rBad_eq rfl, Option.bind_some]
      simp only [cond_false, Int.toNat_natCast]
      rw [if_neg hn]
      unfold head6
      simp only []
      have e2 : andI .i64 ((((valL (s.take 4) : Nat) : Int)).fdiv (2 ^ 20)) 255 = ((valL (s.take 4) / 2 ^ 20 % 256 : Nat) : Int) := by
        rw [fdivP, andI64_mask (m := 255) 8 (by decide) (by decide) (by omega) (by omega)]; omega
      have e3 : andI .i64 ((valL (s.take 4) : Nat) : Int) 1048575 = ((valL (s.take 4) % 2 ^ 20 : Nat) : Int) := by
        rw [andI64_mask (m := 1048575) 20 (by decide) (by decide) (by omega) (by omega)]; omega
      rw [e2, e3]
end Go.Vm.Code
namespace Go.Vm.Code
open Go Go.Vm Go.Proofs
set_option maxRecDepth 100000
set_option maxHeartbeats 4000000
set_option linter.unusedVariables false
def tcp_Stamp_s1 (octet_Get : (List UInt8) → Int → Int → Option (Int × Bool)) (text : List UInt8) (i : Int) : Option (Sum Int (Int × Int × Int)) :=
  cond (decide (i < (text.length : Int)))
    (
    oreq (decide (0 ≤ i)) <|
    (text[i.toNat]?).bind fun (b : UInt8) =>
    cond ((b.toNat : Int) == 0)
      (
      some (.inr ((0, 0, (-1)))))
      (
      cond ((b.toNat : Int) == 1)
        (
        some (.inl (wI .i64 (i + 1))))
        (
        let t := decide ((wI .i64 (i + 1)) < (text.length : Int))
        cond (t)
          (
          oreq (decide (0 ≤ (wI .i64 (i + 1)))) <|
          (text[(wI .i64 (i + 1)).toNat]?).bind fun (b1 : UInt8) =>
          cond (decide ((wI .i64 (b1.toNat : Int)) < 2))
            (
            some (.inr ((0, 0, (-1)))))
            (
            let t1 := decide ((wI .i64 (b1.toNat : Int)) > (wI .i64 ((text.length : Int) - i)))
            cond (t1)
              (
              some (.inr ((0, 0, (-1)))))
              (
              oreq (decide (0 ≤ i)) <|
              (text[i.toNat]?).bind fun (b2 : UInt8) =>
              oreq (decide ((0 : Int) ≤ (wI .i64 (i + (wI .i64 (b1.toNat : Int)))) ∧ (wI .i64 (i + (wI .i64 (b1.toNat : Int)))) ≤ (text.length : Int) ∧ (0 : Int) ≤ (wI .i64 (i + 2)) ∧ (wI .i64 (i + 2)) ≤ ((wI .i64 (i + (wI .i64 (b1.toNat : Int)))).toNat : Int))) <|
              let t2 := (text.drop (wI .i64 (i + 2)).toNat).take ((wI .i64 (i + (wI .i64 (b1.toNat : Int)))).toNat - (wI .i64 (i + 2)).toNat)
              cond ((wI .i64 (b2.toNat : Int)) != 8)
                (
                some (.inl (wI .i64 (i + (wI .i64 (b1.toNat : Int))))))
                (
                (octet_Get t2 0 8).bind fun xg =>
                cond (xg.2)
                  (
                  cond ((t2.length : Int) == 8)
                    (
                    some (.inr ((wI .u32 (xg.1.fdiv (2 ^ 32)), wI .u32 xg.1, wI .i64 (i + 2)))))
                    (
                    some (.inr ((0, 0, (-1))))))
                  (
                  some (.inr ((0, 0, (-1)))))))))
          (
          some (.inr ((0, 0, (-1))))))))
    (
    some (.inr ((0, 0, (-1)))))
def tcp_StampF (octet_Get : (List UInt8) → Int → Int → Option (Int × Bool)) (tcp_List : (List UInt8) → Option ((List tcp_Opt) × Int)) (text : List UInt8) : Option (Int × Int × Int) :=
  (tcp_List text).bind fun l =>
  cond (l.2 != 0)
    (
    some ((0, 0, (-1))))
    (
    iter (fun st => tcp_Stamp_s1 octet_Get text st) FUEL 0)
def rx64 (x : Int × Int × Int) : SRes := ⟨.tuple ⟨[.int .u32 x.1, .int .u32 x.2.1, .int .i64 x.2.2]⟩, [], []⟩
def r64 (g : (List UInt8) → Option (Int × Int × Int)) : Dec := dV asS fun (y0 : List UInt8) => dEnd (ofG (g y0) rx64)
theorem r64_c {g : (List UInt8) → Option (Int × Int × Int)} {y0 : List UInt8} {x : Int × Int × Int} (hx : g y0 = some x) : r64 g [.string ⟨⟨y0⟩⟩] [] = some (rx64 x) := (dV_eq (asS_c)).trans (ofG_eq hx)
def s64 (g : (List UInt8) → Option (Int × Int × Int)) : Summ := ⟨[.v], r64 g⟩
theorem r64_eq {g : (List UInt8) → Option (Int × Int × Int)} {y0 : List UInt8} {x : Int × Int × Int} (hx : g y0 = some x) : (s64 g).run [.string ⟨⟨y0⟩⟩] [] = some (rx64 x) := r64_c hx
abbrev sums64 (octet_Get : (List UInt8) → Int → Int → Option (Int × Bool)) (tcp_List : (List UInt8) → Option ((List tcp_Opt) × Int)) : List (Nat × Summ) := [(25, s25 octet_Get), (91, s91 tcp_List)]
def head64_1 (text : List UInt8) (i : Int) : VM :=
  ⟨⟨114, 62, [(0, .func (.yield 6) #[] #[]), (1, .pointer (some ⟨4, 0, none⟩)), (3, .int .i64 i)], [.code k114_35, .inLoop k114_35, .inBlock 0], [], false, none⟩, [⟨64, 46, [(2, .pointer (some ⟨0, 0, none⟩)), (3, .pointer (some ⟨1, 0, none⟩)), (4, .pointer (some ⟨2, 0, none⟩))], [.inRangeFunc 6, .inBlock 0, .code k64_27], [5], false, none⟩], [(0, .cells [.int .u32 0]), (1, .cells [.int .u32 0]), (2, .cells [.int .i64 0]), (4, .cells [.string ⟨⟨text⟩⟩]), (5, .marks), (6, .loop ⟨.ready, none, 64, 46, [(2, .pointer (some ⟨0, 0, none⟩)), (3, .pointer (some ⟨1, 0, none⟩)), (4, .pointer (some ⟨2, 0, none⟩))], [19], k64_9, k64_22, 5⟩)], 7⟩
theorem loop64_1 (octet_Get : (List UInt8) → Int → Int → Option (Int × Bool)) (tcp_List : (List UInt8) → Option ((List tcp_Opt) × Int)) (hS : SumsOK Try.prog (aget (sums64 octet_Get tcp_List))) (text : List UInt8) (res : Int × Int × Int) : ∀ fuel (st : Int) (o : Int × Int × Int), iter (fun st => tcp_Stamp_s1 octet_Get text st) fuel st = some o → (o = res) →
    Leads Try.prog 64 0 (head64_1 text st) (fun v H _ => Res 0 (rx64 res) v H) := by
  intro fuel st o h hc
  refine iter_leads (head := fun st => head64_1 text st) (C := fun o => (o = res)) ?_ fuel st o h hc
  clear h hc o st fuel
  intro i o h hc
  replace h : tcp_Stamp_s1 octet_Get text i = some o := h
  show Leads Try.prog 64 0 (head64_1 text i) (fun v H _ => Res 0 (rx64 res) v H)
  unfold tcp_Stamp_s1 at h
  refine ev_ok tab_ok hS true 3000 ?_
  conv => whnf
  refine br.h2 h ?_ ?_ ?_
  · rfl
  · clear h; intro hb h; conv => whnf
    all_goals (cases h; cases hc; exact Res.z rfl rfl rfl)
  clear h; intro hb h; conv => whnf
  replace h := oreq.elim h; obtain ⟨hb, h⟩ := h
  first | (refine req.intro hb ?_; conv => whnf) | skip
  replace h := obind.elim h; obtain ⟨b, hy, h⟩ := h
  refine rdS.intro hy ?_
  conv => whnf
  refine br.h h ?_ ?_ ?_
  · rfl
  · clear h; intro hb h; conv => whnf
    all_goals (cases h; cases hc; exact Res.z rfl rfl rfl)
  clear h; intro hb h; conv => whnf
  refine br.h h ?_ ?_ ?_
  · rfl
  · clear h; intro hb h; conv => whnf
    cases h; simp only [Sum.elim_inl, head64_1] at hc
    refine Leads.re hc [(0, 0), (1, 1), (2, 2), (4, 4), (5, 5), (6, 6)] rfl ?_ ?_ (hu := by repeat' first | exact trivial | refine ⟨⟨rfl, rfl, rfl, rfl, rfl, ?_, rfl, rfl⟩, ?_⟩ | refine ⟨⟨_, rfl, rfl⟩, ?_⟩) <;> (repeat' first | exact trivial | refine ⟨⟨_, rfl, rfl⟩, ?_⟩ | refine ⟨⟨_, _, rfl, rfl, .rowF (vI_flat _ _) id⟩, ?_⟩ | refine ⟨⟨_, _, rfl, rfl, .rowF (vS_flat _) id⟩, ?_⟩ | refine ⟨⟨_, _, rfl, rfl, .rowF (vB_flat _) id⟩, ?_⟩ | refine ⟨⟨_, _, rfl, rfl, .rowF (vT_flat (by first | exact capi_Addr_flat | exact capi_Tuple_flat | exact cquic_Head_flat | exact capi_Packet_flat | exact cpacket_outer_flat | exact cipfour_Head_flat | exact coctet_Reader_flat | exact cipsix_Head_flat | exact ctcp_Head_flat | exact ctcp_Opt_flat | exact cudp_Head_flat) _) id⟩, ?_⟩ | refine ⟨⟨_, _, rfl, rfl, .tyF (vI_flat _ _)⟩, ?_⟩ | refine ⟨⟨_, _, rfl, rfl, .ty rfl⟩, ?_⟩ | refine ⟨⟨_, _, rfl, rfl, .cells rfl⟩, ?_⟩ | refine ⟨⟨_, _, rfl, rfl, .row rfl id⟩, ?_⟩ | refine ⟨⟨_, _, rfl, rfl, .cr rfl⟩, ?_⟩ | refine ⟨⟨_, _, rfl, rfl, .rc rfl⟩, ?_⟩ | refine ⟨⟨_, _, rfl, rfl, .marks⟩, ?_⟩ | refine ⟨⟨_, _, rfl, rfl, .siter _ _⟩, ?_⟩ | refine ⟨⟨_, _, rfl, rfl, .loop rfl rfl rfl rfl (by repeat' first | exact trivial | refine ⟨rfl, ?_⟩) rfl rfl rfl rfl⟩, ?_⟩)
  clear h; intro hb h; conv => whnf
  let t : Bool := decide ((wI .i64 (i + 1)) < (text.length : Int))
  refine br.h2 h ?_ ?_ ?_
  · rfl
  · clear h; intro hb h; conv => whnf
    all_goals (cases h; cases hc; exact Res.z rfl rfl rfl)
  clear h; intro hb h; conv => whnf
  replace h := oreq.elim h; obtain ⟨hb, h⟩ := h
  first | (refine req.intro hb ?_; conv => whnf) | skip
  replace h := obind.elim h; obtain ⟨b1, hy, h⟩ := h
  refine rdS.intro hy ?_
  conv => whnf
  refine br.h h ?_ ?_ ?_
  · rfl
  · clear h; intro hb h; conv => whnf
    all_goals (cases h; cases hc; exact Res.z rfl rfl rfl)
  clear h; intro hb h; conv => whnf
  let t1 : Bool := decide ((wI .i64 (b1.toNat : Int)) > (wI .i64 ((text.length : Int) - i)))
  refine br.h h ?_ ?_ ?_
  · rfl
  · clear h; intro hb h; conv => whnf
    all_goals (cases h; cases hc; exact Res.z rfl rfl rfl)
  clear h; intro hb h; conv => whnf
  replace h := oreq.elim h; obtain ⟨hb, h⟩ := h
  first | (refine req.intro hb ?_; conv => whnf) | skip
  replace h := obind.elim h; obtain ⟨b2, hy, h⟩ := h
  refine rdS.intro hy ?_
  conv => whnf
  replace h := oreq.elim h; obtain ⟨hb, h⟩ := h
  first | (refine req.intro hb ?_; conv => whnf) | skip
  let t2 : List UInt8 := (text.drop (wI .i64 (i + 2)).toNat).take ((wI .i64 (i + (wI .i64 (b1.toNat : Int)))).toNat - (wI .i64 (i + 2)).toNat)
  refine br.h h ?_ ?_ ?_
  · rfl
  · clear h; intro hb h; conv => whnf
    cases h; simp only [Sum.elim_inl, head64_1] at hc
    refine Leads.re hc [(0, 0), (1, 1), (2, 2), (4, 4), (5, 5), (6, 6)] rfl ?_ ?_ (hu := by repeat' first | exact trivial | refine ⟨⟨rfl, rfl, rfl, rfl, rfl, ?_, rfl, rfl⟩, ?_⟩ | refine ⟨⟨_, rfl, rfl⟩, ?_⟩) <;> (repeat' first | exact trivial | refine ⟨⟨_, rfl, rfl⟩, ?_⟩ | refine ⟨⟨_, _, rfl, rfl, .rowF (vI_flat _ _) id⟩, ?_⟩ | refine ⟨⟨_, _, rfl, rfl, .rowF (vS_flat _) id⟩, ?_⟩ | refine ⟨⟨_, _, rfl, rfl, .rowF (vB_flat _) id⟩, ?_⟩ | refine ⟨⟨_, _, rfl, rfl, .rowF (vT_flat (by first | exact capi_Addr_flat | exact capi_Tuple_flat | exact cquic_Head_flat | exact capi_Packet_flat | exact cpacket_outer_flat | exact cipfour_Head_flat | exact coctet_Reader_flat | exact cipsix_Head_flat | exact ctcp_Head_flat | exact ctcp_Opt_flat | exact cudp_Head_flat) _) id⟩, ?_⟩ | refine ⟨⟨_, _, rfl, rfl, .tyF (vI_flat _ _)⟩, ?_⟩ | refine ⟨⟨_, _, rfl, rfl, .ty rfl⟩, ?_⟩ | refine ⟨⟨_, _, rfl, rfl, .cells rfl⟩, ?_⟩ | refine ⟨⟨_, _, rfl, rfl, .row rfl id⟩, ?_⟩ | refine ⟨⟨_, _, rfl, rfl, .cr rfl⟩, ?_⟩ | refine ⟨⟨_, _, rfl, rfl, .rc rfl⟩, ?_⟩ | refine ⟨⟨_, _, rfl, rfl, .marks⟩, ?_⟩ | refine ⟨⟨_, _, rfl, rfl, .siter _ _⟩, ?_⟩ | refine ⟨⟨_, _, rfl, rfl, .loop rfl rfl rfl rfl (by repeat' first | exact trivial | refine ⟨rfl, ?_⟩) rfl rfl rfl rfl⟩, ?_⟩)
  clear h; intro hb h; conv => whnf
  replace h := obind.elim h; obtain ⟨xg, hy, h⟩ := h
  refine sumK.q rfl rfl (r25_eq hy) rfl rfl rfl ?_
  conv => whnf
  refine br.h2 h ?_ ?_ ?_
  · rfl
  · clear h; intro hb h; conv => whnf
    all_goals (cases h; cases hc; exact Res.z rfl rfl rfl)
  clear h; intro hb h; conv => whnf
  refine br.h h ?_ ?_ ?_
  · rfl
  · clear h; intro hb h; conv => whnf
    all_goals (cases h; cases hc; exact Res.z rfl rfl rfl)
  clear h; intro hb h; conv => whnf
  all_goals (cases h; cases hc; exact Res.z rfl rfl rfl)
theorem leads64 (octet_Get : (List UInt8) → Int → Int → Option (Int × Bool)) (tcp_List : (List UInt8) → Option ((List tcp_Opt) × Int)) (hS : SumsOK Try.prog (aget (sums64 octet_Get tcp_List))) (text : List UInt8) (res : Int × Int × Int) (h : tcp_StampF octet_Get tcp_List text = some res) :
    Leads Try.prog 64 0 ⟨⟨64, 46, [(0, .string ⟨⟨text⟩⟩)], [.code k64_30], [], false, none⟩, [], [], 0⟩ (fun v H _ => Res 0 (rx64 res) v H) := by
  unfold tcp_StampF at h
  refine ev_ok tab_ok hS true 3000 ?_
  conv => whnf
  replace h := obind.elim h; obtain ⟨l, hy, h⟩ := h
  refine sumK.introF [] (sumRun_of (aqs := [.string ⟨⟨text⟩⟩]) (ws := []) (n := 1) (m := 0) (t' := 4) (ra_cons rfl rfl ra_nil) rfl (by rfl) (r91_eq hy) rfl rfl rfl rfl wb_nil (an_cons (rn_T ctcp_Opt_flat) an_nil) rfl) ?_
  conv => whnf
  refine br.h h ?_ ?_ ?_
  · rfl
  · clear h; intro hb h; conv => whnf
    all_goals (cases h; exact Res.z rfl rfl rfl)
  clear h; intro hb h; conv => whnf
  have hl := loop64_1 octet_Get tcp_List hS _ res _ _ _ h rfl; simp only [head64_1] at hl
  refine Leads.re hl [(0, 0), (1, 1), (2, 2), (4, 4), (5, 5), (6, 6)] rfl ?_ ?_ (hu := by repeat' first | exact trivial | refine ⟨⟨rfl, rfl, rfl, rfl, rfl, ?_, rfl, rfl⟩, ?_⟩ | refine ⟨⟨_, rfl, rfl⟩, ?_⟩) <;> (repeat' first | exact trivial | refine ⟨⟨_, rfl, rfl⟩, ?_⟩ | refine ⟨⟨_, _, rfl, rfl, .rowF (vI_flat _ _) id⟩, ?_⟩ | refine ⟨⟨_, _, rfl, rfl, .rowF (vS_flat _) id⟩, ?_⟩ | refine ⟨⟨_, _, rfl, rfl, .rowF (vB_flat _) id⟩, ?_⟩ | refine ⟨⟨_, _, rfl, rfl, .rowF (vT_flat (by first | exact capi_Addr_flat | exact capi_Tuple_flat | exact cquic_Head_flat | exact capi_Packet_flat | exact cpacket_outer_flat | exact cipfour_Head_flat | exact coctet_Reader_flat | exact cipsix_Head_flat | exact ctcp_Head_flat | exact ctcp_Opt_flat | exact cudp_Head_flat) _) id⟩, ?_⟩ | refine ⟨⟨_, _, rfl, rfl, .tyF (vI_flat _ _)⟩, ?_⟩ | refine ⟨⟨_, _, rfl, rfl, .ty rfl⟩, ?_⟩ | refine ⟨⟨_, _, rfl, rfl, .cells rfl⟩, ?_⟩ | refine ⟨⟨_, _, rfl, rfl, .row rfl id⟩, ?_⟩ | refine ⟨⟨_, _, rfl, rfl, .cr rfl⟩, ?_⟩ | refine ⟨⟨_, _, rfl, rfl, .rc rfl⟩, ?_⟩ | refine ⟨⟨_, _, rfl, rfl, .marks⟩, ?_⟩ | refine ⟨⟨_, _, rfl, rfl, .siter _ _⟩, ?_⟩ | refine ⟨⟨_, _, rfl, rfl, .loop rfl rfl rfl rfl (by repeat' first | exact trivial | refine ⟨rfl, ?_⟩) rfl rfl rfl rfl⟩, ?_⟩)
theorem ok64 (octet_Get : (List UInt8) → Int → Int → Option (Int × Bool)) (tcp_List : (List UInt8) → Option ((List tcp_Opt) × Int)) (hS : SumsOK Try.prog (aget (sums64 octet_Get tcp_List))) : SumOK Try.prog 64 (s64 (tcp_StampF octet_Get tcp_List)) := by
  refine SumOK.of_leads tab_ok (fun ar os r ha hr => ?_) ⟨Try.f64, rfl, by decide, rfl⟩
  replace hr : r64 (tcp_StampF octet_Get tcp_List) ar (conts os) = some r := hr
  unfold r64 at hr
  generalize hc : conts os = C at hr
  replace hr := dV.elim hr; obtain ⟨v0, l1, y0, rfl, e0, hr⟩ := hr; obtain rfl := asS_eq _ _ e0
  replace hr := dFin hr; obtain ⟨rfl, rfl, x, h, rfl⟩ := hr
  obtain rfl := kinds_nil hc
  exact ⟨_, rfl, leads64 octet_Get tcp_List hS _ x h⟩
def tcp_Stamp : (List UInt8) → Option (Int × Int × Int) := tcp_StampF octet_Get tcp_List
theorem lift64 : SumOK Try.prog 64 (s64 tcp_Stamp) := ok64 octet_Get tcp_List (SumsOK.of_tab ⟨lift25, lift91, trivial⟩)
end Go.Vm.Code
namespace Go.Vm.Code
open Go Go.Vm
def stL : List Opt7 → Int × Int × Int
  | [] => (0, 0, -1)
  | o :: l => if o.Kind = 8 then (if o.Data.length = 8 then (vK o.Data 0 4, vK o.Data 4 4, o.At) else (0, 0, -1)) else stL l
def stamp7 (s : List UInt8) : Int × Int × Int := stL (opt7 s).1
theorem optF_gen (s : List UInt8) : ∀ (n i : Nat) (out : List Opt7), optF s n i out = if (optF s n i []).2 = 0 then (out ++ (optF s n i []).1, 0) else ([], 3) := by
  intro n
  induction n using Nat.strongRecOn with
  | ind n ih =>
    intro i out
    cases n with
    | zero => rw [optF, optF]; simp
    | succ n =>
      have e : ∀ o, optF s (n + 1) i o = match s[i]? with
        | none => (o, 0)
        | some b => if b = 0 then (o, 0) else if b = 1 then optF s n (i + 1) o else match s[i + 1]? with
          | none => ([], 3)
          | some k => if k.toNat < 2 then ([], 3) else if s.length - i < k.toNat then ([], 3) else
              optF s (n + 1 - k.toNat) (i + k.toNat) (o ++ [⟨(b.toNat : Int), (s.drop (i + 2)).take (k.toNat - 2), ((i + 2 : Nat) : Int)⟩]) := fun o => by rw [optF]; cases s[i]? <;> cases s[i + 1]? <;> rfl
      rw [e out, e []]
      cases s[i]? with
      | none => simp
      | some b =>
        simp only
        by_cases h0 : b = 0
        · simp [h0]
        rw [if_neg h0, if_neg h0]
        by_cases h1 : b = 1
        · rw [if_pos h1, if_pos h1]; exact ih n (by omega) _ _
        rw [if_neg h1, if_neg h1]
        cases s[i + 1]? with
        | none => simp
        | some k =>
          simp only
          by_cases h2 : k.toNat < 2
          · simp [h2]
          by_cases h3 : s.length - i < k.toNat
          · simp [h2, h3]
          rw [if_neg h2, if_neg h2, if_neg h3, if_neg h3, ih _ (by omega) _ (out ++ _), ih _ (by omega) _ ([] ++ _)]
          by_cases hz : (optF s (n + 1 - k.toNat) (i + k.toNat) []).2 = 0
          · simp [hz]
          · simp [hz]
theorem opt7_err {s : List UInt8} (h : (opt7 s).2 ≠ 0) : (opt7 s).1 = [] := by
  unfold opt7 at *
  have := optF_gen s s.length 0 []
  rw [if_neg h] at this
  rw [this]
theorem val8 {t : List UInt8} (h : t.length = 8) : ((valL t : Nat) : Int) = vK t 0 4 * 4294967296 + vK t 4 4 := by
  unfold vK
  have e : t.take 4 ++ (t.drop 4).take 4 = t := by rw [List.take_of_length_le (l := t.drop 4) (by simp; omega), List.take_append_drop]
  have := val_append (t.take 4) ((t.drop 4).take 4)
  rw [e, show ((t.drop 4).take 4).length = 4 by simp; omega] at this
  rw [List.drop_zero, this]
  omega
theorem t7st_eq {s : List UInt8} (hs : s.length < 2 ^ 20) : tcp_Stamp s = some (stamp7 s) := by
  unfold tcp_Stamp tcp_StampF
  rw [t7_eq hs, Option.bind_some]
  by_cases hz : (opt7 s).2 = 0
  · rw [show ((opt7 s).2 != 0) = false by simpa using hz, cond_false]
    unfold stamp7 opt7
    unfold opt7 at hz
    have key := iter_eq (step := fun st => tcp_Stamp_s1 octet_Get s st) (fun st => stL (optF s (s.length - st.toNat) st.toNat []).1) (fun st => 0 ≤ st ∧ st ≤ s.length ∧ (optF s (s.length - st.toNat) st.toNat []).2 = 0) (fun st => s.length - st.toNat) ?_ FUEL 0 ⟨by omega, by omega, by simpa using hz⟩ (by rw [FUEL_eq]; omega)
    · rw [key]; rfl
    intro st ⟨g1, g2, g3⟩
    obtain ⟨i, rfl⟩ := Int.eq_ofNat_of_zero_le g1
    simp only [Int.toNat_natCast] at g3 ⊢
    unfold tcp_Stamp_s1
    by_cases hi : i < s.length
    · obtain ⟨n, hn⟩ : ∃ n, s.length - i = n + 1 := ⟨s.length - i - 1, by omega⟩
      have e : s[i]? = some s[i] := List.getElem?_eq_getElem hi
      rw [hn, optF, e] at g3
      simp only at g3
      rw [cond_p (by omega), oreq_p (by omega), Int.toNat_natCast, e, Option.bind_some, hn, optF, e]
      by_cases h0 : s[i] = 0
      · refine .inl ?_
        rw [show ((s[i].toNat : Int) == 0) = true by rw [h0]; rfl, cond_true]
        simp only [h0, if_true]; rfl
      rw [show ((s[i].toNat : Int) == 0) = false by simp; intro hx; exact h0 (UInt8.toNat_inj.1 (by simpa using hx)), cond_false]
      rw [if_neg h0] at g3
      simp only [if_neg h0]
      by_cases h1 : s[i] = 1
      · rw [if_pos h1] at g3
        refine .inr ⟨((i + 1 : Nat) : Int), ?_, ⟨by omega, by omega, ?_⟩, by omega, ?_⟩
        · rw [show ((s[i].toNat : Int) == 1) = true by rw [h1]; rfl, cond_true, wI64 (by omega) (by omega)]; rfl
        · rw [Int.toNat_natCast, show s.length - (i + 1) = n by omega]; exact g3
        · simp only [Int.toNat_natCast, if_pos h1]
          rw [show s.length - (i + 1) = n by omega]
      rw [show ((s[i].toNat : Int) == 1) = false by simp; intro hx; exact h1 (UInt8.toNat_inj.1 (by simp; omega)), cond_false]
      rw [if_neg h1] at g3
      simp only [if_neg h1]
      rw [wI64 (n := (i : Int) + 1) (by omega) (by omega)]
      by_cases h2 : s.length ≤ i + 1
      · rw [List.getElem?_eq_none (by omega)] at g3
        simp at g3
      have hi1 : i + 1 < s.length := by omega
      have e1 : s[i + 1]? = some s[i + 1] := List.getElem?_eq_getElem hi1
      have b1 := s[i + 1].toNat_lt
      rw [e1] at g3
      simp only at g3
      rw [cond_p (by omega), show ((i : Int) + 1).toNat = i + 1 by omega, e1, oreq_p (by omega), Option.bind_some]
      simp only [Option.bind_some]
      rw [wI64 (n := (s[i + 1].toNat : Int)) (by omega) (by omega)]
      by_cases h3 : s[i + 1].toNat < 2
      · rw [if_pos h3] at g3
        exact absurd g3 (by decide)
      rw [if_neg h3] at g3
      rw [cond_n (by omega), if_neg h3, wI64 (n := (s.length : Int) - i) (by omega) (by omega)]
      by_cases h4 : s.length - i < s[i + 1].toNat
      · rw [if_pos h4] at g3
        exact absurd g3 (by decide)
      rw [if_neg h4, optF_gen] at g3
      have b0 := s[i].toNat_lt
      have hz2 : (optF s (n + 1 - s[i + 1].toNat) (i + s[i + 1].toNat) []).2 = 0 := by
        apply Decidable.byContradiction
        intro hx
        rw [if_neg hx] at g3
        exact absurd g3 (by decide)
      rw [if_neg h4, optF_gen, if_pos hz2, cond_n (by omega), oreq_p (by omega), wI64 (n := (i : Int) + s[i + 1].toNat) (by omega) (by omega), wI64 (n := (i : Int) + 2) (by omega) (by omega), wI64 (n := (s[i].toNat : Int)) (by omega) (by omega), oreq_p (by omega), show ((i : Int) + s[i + 1].toNat).toNat - ((i : Int) + 2).toNat = s[i + 1].toNat - 2 by omega, show ((i : Int) + 2).toNat = i + 2 by omega]
      simp only [List.nil_append, List.cons_append, stL]
      have hdl : ((s.drop (i + 2)).take (s[i + 1].toNat - 2)).length = s[i + 1].toNat - 2 := by simp; omega
      generalize (s.drop (i + 2)).take (s[i + 1].toNat - 2) = D at *
      by_cases h8 : (s[i].toNat : Int) = 8
      · refine .inl ?_
        rw [show ((s[i].toNat : Int) != 8) = false by simpa using h8, cond_false, if_pos h8, octet_Get_eq (by omega), Option.bind_some]
        by_cases hl : D.length = 8
        · rw [getS_at (by omega) (by omega) (by omega) (by omega), if_pos hl]
          have r0 := vK_rng D 0 4 4294967296 (by decide)
          have r4 := vK_rng D 4 4 4294967296 (by decide)
          have hv := val8 hl
          have ev : (D.drop (0 : Int).toNat).take (8 : Int).toNat = D := by
            rw [show (0 : Int).toNat = 0 from rfl, show (8 : Int).toNat = 8 from rfl, List.drop_zero, List.take_of_length_le (by omega)]
          simp only [cond_true, ev]
          rw [show ((D.length : Int) == 8) = true by simp; omega, cond_true, hv, fdivP, show ((2 : Int) ^ 32) = 4294967296 from rfl, show (vK D 0 4 * 4294967296 + vK D 4 4) / 4294967296 = vK D 0 4 by omega, wU32 r0.1 r0.2, wU32m, show (vK D 0 4 * 4294967296 + vK D 4 4) % 4294967296 = vK D 4 4 by omega]; rfl
        · rw [if_neg hl]
          rw [show ((D.length : Int) == 8) = false by simp; omega]
          cases (getS D 0 8).2 <;> rfl
      · refine .inr ⟨((i + s[i + 1].toNat : Nat) : Int), ?_, ⟨by omega, by omega, ?_⟩, by omega, ?_⟩
        · rw [show ((s[i].toNat : Int) != 8) = true by simpa using h8, cond_true]; rfl
        · rw [Int.toNat_natCast, show s.length - (i + s[i + 1].toNat) = n + 1 - s[i + 1].toNat by omega]; exact hz2
        · rw [Int.toNat_natCast, show s.length - (i + s[i + 1].toNat) = n + 1 - s[i + 1].toNat by omega, if_neg h8]
    · refine .inl ?_
      rw [cond_n (by omega), show s.length - i = 0 by omega, optF]; rfl
  · rw [show ((opt7 s).2 != 0) = true by simpa using hz, cond_true]
    unfold stamp7
    rw [opt7_err hz]; rfl
end Go.Vm.Code
namespace Go.Vm.Code
open Go Go.Vm Go.Proofs
set_option maxRecDepth 100000
set_option maxHeartbeats 4000000
set_option linter.unusedVariables false
def octet_Reader_RestF (octet_Reader_Bad : octet_Reader → Option (Bool × octet_Reader)) (octet_Reader_Text : octet_Reader → Int → Option ((List UInt8) × octet_Reader)) (ra0 : octet_Reader) : Option ((List UInt8) × octet_Reader) :=
  (octet_Reader_Bad ra0).bind fun b =>
  cond (b.1)
    (
    some (([], b.2)))
    (
    (octet_Reader_Text b.2 (b.2.s.length : Int)).bind fun t =>
    some ((t.1, t.2)))
def rx107 (x : (List UInt8) × octet_Reader) : SRes := ⟨.string ⟨⟨x.1⟩⟩, [], [some [.string ⟨⟨x.2.s⟩⟩, .bool x.2.made, .bool x.2.bad]]⟩
def r107 (g : octet_Reader → Option ((List UInt8) × octet_Reader)) : Dec := dPt 0 unoctet_Reader fun (y0 : octet_Reader) => dEnd (ofG (g y0) rx107)
theorem r107_c {g : octet_Reader → Option ((List UInt8) × octet_Reader)} {y0 : octet_Reader} {x : (List UInt8) × octet_Reader} (hx : g y0 = some x) : r107 g [.pointer (some ⟨0, 0, none⟩)] [some [.string ⟨⟨y0.s⟩⟩, .bool y0.made, .bool y0.bad]] = some (rx107 x) := (dPt_eq (unoctet_Reader_c _)).trans (ofG_eq hx)
def s107 (g : octet_Reader → Option ((List UInt8) × octet_Reader)) : Summ := ⟨[.pt 3], r107 g⟩
theorem r107_eq {g : octet_Reader → Option ((List UInt8) × octet_Reader)} {y0 : octet_Reader} {x : (List UInt8) × octet_Reader} (hx : g y0 = some x) : (s107 g).run [.pointer (some ⟨0, 0, none⟩)] [some [.string ⟨⟨y0.s⟩⟩, .bool y0.made, .bool y0.bad]] = some (rx107 x) := r107_c hx
abbrev sums107 (octet_Reader_Bad : octet_Reader → Option (Bool × octet_Reader)) (octet_Reader_Text : octet_Reader → Int → Option ((List UInt8) × octet_Reader)) : List (Nat × Summ) := [(105, s105 octet_Reader_Bad), (106, s106 octet_Reader_Text)]
theorem leads107 (octet_Reader_Bad : octet_Reader → Option (Bool × octet_Reader)) (octet_Reader_Text : octet_Reader → Int → Option ((List UInt8) × octet_Reader)) (hS : SumsOK Try.prog (aget (sums107 octet_Reader_Bad octet_Reader_Text))) (ra0 : octet_Reader) (res : (List UInt8) × octet_Reader) (h : octet_Reader_RestF octet_Reader_Bad octet_Reader_Text ra0 = some res) :
    Leads Try.prog 107 1 ⟨⟨107, 12, [(0, .pointer (some ⟨0, 0, none⟩))], [.code k107_9], [], false, none⟩, [], [(0, .cells [.string ⟨⟨ra0.s⟩⟩, .bool ra0.made, .bool ra0.bad])], 1⟩ (fun v H _ => Res 1 (rx107 res) v H) := by
  unfold octet_Reader_RestF at h
  refine ev_ok tab_ok hS true 3000 ?_
  conv => whnf
  replace h := obind.elim h; obtain ⟨b, hy, h⟩ := h
  refine sumK.introF [0] (sumRun_of (aqs := [.pointer (some ⟨0, 0, none⟩)]) (ws := [.win 0 0 3 true]) (n := 0) (m := 0) (t' := 1) (ra_cons rfl rfl ra_nil) rfl (by rfl) (r105_eq hy) rfl rfl rfl rfl (wb_win rfl rfl rfl ⟨rfl, Nat.le_of_ble_eq_true rfl⟩ rfl rfl wb_nil) an_nil rfl) ?_
  conv => whnf
  refine br.h h ?_ ?_ ?_
  · rfl
  · clear h; intro hb h; conv => whnf
    all_goals (cases h)
    all_goals exact Res.of [] rfl nw_0 (by decide) js_0 (wr_s (rfl) (hs_cells rfl) wr_0)
  clear h; intro hb h; conv => whnf
  replace h := obind.elim h; obtain ⟨t, hy, h⟩ := h
  refine sumK.introF [0] (sumRun_of (aqs := [.pointer (some ⟨0, 0, none⟩), .int .i64 (b.2.s.length : Int)]) (ws := [.win 0 0 3 true]) (n := 0) (m := 0) (t' := 1) (ra_cons rfl rfl (ra_cons rfl rfl ra_nil)) rfl (by rfl) (r106_eq hy) rfl rfl rfl rfl (wb_win rfl rfl rfl ⟨rfl, Nat.le_of_ble_eq_true rfl⟩ rfl rfl wb_nil) an_nil rfl) ?_
  conv => whnf
  all_goals (cases h)
  all_goals exact Res.of [] rfl nw_0 (by decide) js_0 (wr_s (rfl) (hs_cells rfl) wr_0)
theorem ok107 (octet_Reader_Bad : octet_Reader → Option (Bool × octet_Reader)) (octet_Reader_Text : octet_Reader → Int → Option ((List UInt8) × octet_Reader)) (hS : SumsOK Try.prog (aget (sums107 octet_Reader_Bad octet_Reader_Text))) : SumOK Try.prog 107 (s107 (octet_Reader_RestF octet_Reader_Bad octet_Reader_Text)) := by
  refine SumOK.of_leads tab_ok (fun ar os r ha hr => ?_) ⟨Try.f107, rfl, by decide, rfl⟩
  replace hr : r107 (octet_Reader_RestF octet_Reader_Bad octet_Reader_Text) ar (conts os) = some r := hr
  unfold r107 at hr
  generalize hc : conts os = C at hr
  have hq := dPt.elim hr; clear hr; obtain ⟨c0, l1, C, y0, rfl, rfl, e0, hr⟩ := hq; obtain rfl := unoctet_Reader_eq _ _ e0
  replace hr := dFin hr; obtain ⟨rfl, rfl, x, h, rfl⟩ := hr
  obtain ⟨os, rfl, ha, hc⟩ := kinds_some ha hc
  obtain rfl := kinds_nil hc
  exact ⟨_, rfl, leads107 octet_Reader_Bad octet_Reader_Text hS _ x h⟩
def octet_Reader_Rest : octet_Reader → Option ((List UInt8) × octet_Reader) := octet_Reader_RestF octet_Reader_Bad octet_Reader_Text
theorem lift107 : SumOK Try.prog 107 (s107 octet_Reader_Rest) := ok107 octet_Reader_Bad octet_Reader_Text (SumsOK.of_tab ⟨lift105, lift106, trivial⟩)
def quic_idF (octet_Reader_Bad : octet_Reader → Option (Bool × octet_Reader)) (octet_Reader_Num : octet_Reader → Int → Option (Int × octet_Reader)) (octet_Reader_Text : octet_Reader → Int → Option ((List UInt8) × octet_Reader)) (ra0 : octet_Reader) : Option ((List UInt8) × Int × octet_Reader) :=
  (octet_Reader_Num ra0 1).bind fun n =>
  (octet_Reader_Bad n.2).bind fun b =>
  cond (!b.1)
    (
    cond (decide (n.1 > 20))
      (
      some (([], 3, b.2)))
      (
      (octet_Reader_Text b.2 n.1).bind fun t =>
      (octet_Reader_Bad t.2).bind fun b1 =>
      cond (b1.1)
        (
        some (([], 2, b1.2)))
        (
        some ((t.1, 0, b1.2)))))
    (
    (octet_Reader_Text b.2 n.1).bind fun t1 =>
    (octet_Reader_Bad t1.2).bind fun b2 =>
    cond (b2.1)
      (
      some (([], 2, b2.2)))
      (
      some ((t1.1, 0, b2.2))))
def rx109 (x : (List UInt8) × Int × octet_Reader) : SRes := ⟨.tuple ⟨[.string ⟨⟨x.1⟩⟩, .int .i64 x.2.1]⟩, [], [some [.string ⟨⟨x.2.2.s⟩⟩, .bool x.2.2.made, .bool x.2.2.bad]]⟩
def r109 (g : octet_Reader → Option ((List UInt8) × Int × octet_Reader)) : Dec := dPt 0 unoctet_Reader fun (y0 : octet_Reader) => dEnd (ofG (g y0) rx109)
theorem r109_c {g : octet_Reader → Option ((List UInt8) × Int × octet_Reader)} {y0 : octet_Reader} {x : (List UInt8) × Int × octet_Reader} (hx : g y0 = some x) : r109 g [.pointer (some ⟨0, 0, none⟩)] [some [.string ⟨⟨y0.s⟩⟩, .bool y0.made, .bool y0.bad]] = some (rx109 x) := (dPt_eq (unoctet_Reader_c _)).trans (ofG_eq hx)
def s109 (g : octet_Reader → Option ((List UInt8) × Int × octet_Reader)) : Summ := ⟨[.pt 3], r109 g⟩
theorem r109_eq {g : octet_Reader → Option ((List UInt8) × Int × octet_Reader)} {y0 : octet_Reader} {x : (List UInt8) × Int × octet_Reader} (hx : g y0 = some x) : (s109 g).run [.pointer (some ⟨0, 0, none⟩)] [some [.string ⟨⟨y0.s⟩⟩, .bool y0.made, .bool y0.bad]] = some (rx109 x) := r109_c hx
abbrev sums109 (octet_Reader_Bad : octet_Reader → Option (Bool × octet_Reader)) (octet_Reader_Num : octet_Reader → Int → Option (Int × octet_Reader)) (octet_Reader_Text : octet_Reader → Int → Option ((List UInt8) × octet_Reader)) : List (Nat × Summ) := [(105, s105 octet_Reader_Bad), (104, s104 octet_Reader_Num), (106, s106 octet_Reader_Text)]
theorem leads109 (octet_Reader_Bad : octet_Reader → Option (Bool × octet_Reader)) (octet_Reader_Num : octet_Reader → Int → Option (Int × octet_Reader)) (octet_Reader_Text : octet_Reader → Int → Option ((List UInt8) × octet_Reader)) (hS : SumsOK Try.prog (aget (sums109 octet_Reader_Bad octet_Reader_Num octet_Reader_Text))) (ra0 : octet_Reader) (res : (List UInt8) × Int × octet_Reader) (h : quic_idF octet_Reader_Bad octet_Reader_Num octet_Reader_Text ra0 = some res) :
    Leads Try.prog 109 1 ⟨⟨109, 21, [(0, .pointer (some ⟨0, 0, none⟩))], [.code k109_19], [], false, none⟩, [], [(0, .cells [.string ⟨⟨ra0.s⟩⟩, .bool ra0.made, .bool ra0.bad])], 1⟩ (fun v H _ => Res 1 (rx109 res) v H) := by
  unfold quic_idF at h
  refine ev_ok tab_ok hS true 3000 ?_
  conv => whnf
  replace h := obind.elim h; obtain ⟨n, hy, h⟩ := h
  refine sumK.introF [0] (sumRun_of (aqs := [.pointer (some ⟨0, 0, none⟩), .int .i64 1]) (ws := [.win 0 0 3 true]) (n := 0) (m := 0) (t' := 1) (ra_cons rfl rfl (ra_cons rfl rfl ra_nil)) rfl (by rfl) (r104_eq hy) rfl rfl rfl rfl (wb_win rfl rfl rfl ⟨rfl, Nat.le_of_ble_eq_true rfl⟩ rfl rfl wb_nil) an_nil rfl) ?_
  conv => whnf
  replace h := obind.elim h; obtain ⟨b, hy, h⟩ := h
  refine sumK.introF [0] (sumRun_of (aqs := [.pointer (some ⟨0, 0, none⟩)]) (ws := [.win 0 0 3 true]) (n := 0) (m := 0) (t' := 1) (ra_cons rfl rfl ra_nil) rfl (by rfl) (r105_eq hy) rfl rfl rfl rfl (wb_win rfl rfl rfl ⟨rfl, Nat.le_of_ble_eq_true rfl⟩ rfl rfl wb_nil) an_nil rfl) ?_
  conv => whnf
  refine br.h2 h ?_ ?_ ?_
  · rfl
  · clear h; intro hb h; conv => whnf
    replace h := obind.elim h; obtain ⟨t1, hy, h⟩ := h
    refine sumK.introF [0] (sumRun_of (aqs := [.pointer (some ⟨0, 0, none⟩), .int .i64 n.1]) (ws := [.win 0 0 3 true]) (n := 0) (m := 0) (t' := 1) (ra_cons rfl rfl (ra_cons rfl rfl ra_nil)) rfl (by rfl) (r106_eq hy) rfl rfl rfl rfl (wb_win rfl rfl rfl ⟨rfl, Nat.le_of_ble_eq_true rfl⟩ rfl rfl wb_nil) an_nil rfl) ?_
    conv => whnf
    replace h := obind.elim h; obtain ⟨b2, hy, h⟩ := h
    refine sumK.introF [0] (sumRun_of (aqs := [.pointer (some ⟨0, 0, none⟩)]) (ws := [.win 0 0 3 true]) (n := 0) (m := 0) (t' := 1) (ra_cons rfl rfl ra_nil) rfl (by rfl) (r105_eq hy) rfl rfl rfl rfl (wb_win rfl rfl rfl ⟨rfl, Nat.le_of_ble_eq_true rfl⟩ rfl rfl wb_nil) an_nil rfl) ?_
    conv => whnf
    refine br.h h ?_ ?_ ?_
    · rfl
    · clear h; intro hb h; conv => whnf
      all_goals (cases h)
      all_goals exact Res.of [] rfl nw_0 (by decide) js_0 (wr_s (rfl) (hs_cells rfl) wr_0)
    clear h; intro hb h; conv => whnf
    all_goals (cases h)
    all_goals exact Res.of [] rfl nw_0 (by decide) js_0 (wr_s (rfl) (hs_cells rfl) wr_0)
  clear h; intro hb h; conv => whnf
  refine br.h h ?_ ?_ ?_
  · rfl
  · clear h; intro hb h; conv => whnf
    all_goals (cases h)
    all_goals exact Res.of [] rfl nw_0 (by decide) js_0 (wr_s (rfl) (hs_cells rfl) wr_0)
  clear h; intro hb h; conv => whnf
  replace h := obind.elim h; obtain ⟨t, hy, h⟩ := h
  refine sumK.introF [0] (sumRun_of (aqs := [.pointer (some ⟨0, 0, none⟩), .int .i64 n.1]) (ws := [.win 0 0 3 true]) (n := 0) (m := 0) (t' := 1) (ra_cons rfl rfl (ra_cons rfl rfl ra_nil)) rfl (by rfl) (r106_eq hy) rfl rfl rfl rfl (wb_win rfl rfl rfl ⟨rfl, Nat.le_of_ble_eq_true rfl⟩ rfl rfl wb_nil) an_nil rfl) ?_
  conv => whnf
  replace h := obind.elim h; obtain ⟨b1, hy, h⟩ := h
  refine sumK.introF [0] (sumRun_of (aqs := [.pointer (some ⟨0, 0, none⟩)]) (ws := [.win 0 0 3 true]) (n := 0) (m := 0) (t' := 1) (ra_cons rfl rfl ra_nil) rfl (by rfl) (r105_eq hy) rfl rfl rfl rfl (wb_win rfl rfl rfl ⟨rfl, Nat.le_of_ble_eq_true rfl⟩ rfl rfl wb_nil) an_nil rfl) ?_
  conv => whnf
  refine br.h h ?_ ?_ ?_
  · rfl
  · clear h; intro hb h; conv => whnf
    all_goals (cases h)
    all_goals exact Res.of [] rfl nw_0 (by decide) js_0 (wr_s (rfl) (hs_cells rfl) wr_0)
  clear h; intro hb h; conv => whnf
  all_goals (cases h)
  all_goals exact Res.of [] rfl nw_0 (by decide) js_0 (wr_s (rfl) (hs_cells rfl) wr_0)
theorem ok109 (octet_Reader_Bad : octet_Reader → Option (Bool × octet_Reader)) (octet_Reader_Num : octet_Reader → Int → Option (Int × octet_Reader)) (octet_Reader_Text : octet_Reader → Int → Option ((List UInt8) × octet_Reader)) (hS : SumsOK Try.prog (aget (sums109 octet_Reader_Bad octet_Reader_Num octet_Reader_Text))) : SumOK Try.prog 109 (s109 (quic_idF octet_Reader_Bad octet_Reader_Num octet_Reader_Text)) := by
  refine SumOK.of_leads tab_ok (fun ar os r ha hr => ?_) ⟨Try.f109, rfl, by decide, rfl⟩
  replace hr : r109 (quic_idF octet_Reader_Bad octet_Reader_Num octet_Reader_Text) ar (conts os) = some r := hr
  unfold r109 at hr
  generalize hc : conts os = C at hr
  have hq := dPt.elim hr; clear hr; obtain ⟨c0, l1, C, y0, rfl, rfl, e0, hr⟩ := hq; obtain rfl := unoctet_Reader_eq _ _ e0
  replace hr := dFin hr; obtain ⟨rfl, rfl, x, h, rfl⟩ := hr
  obtain ⟨os, rfl, ha, hc⟩ := kinds_some ha hc
  obtain rfl := kinds_nil hc
  exact ⟨_, rfl, leads109 octet_Reader_Bad octet_Reader_Num octet_Reader_Text hS _ x h⟩
def quic_id : octet_Reader → Option ((List UInt8) × Int × octet_Reader) := quic_idF octet_Reader_Bad octet_Reader_Num octet_Reader_Text
theorem lift109 : SumOK Try.prog 109 (s109 quic_id) := ok109 octet_Reader_Bad octet_Reader_Num octet_Reader_Text (SumsOK.of_tab ⟨lift105, lift104, lift106, trivial⟩)
def quic_GetF (octet_New : (List UInt8) → Option octet_Reader) (octet_Reader_Bad : octet_Reader → Option (Bool × octet_Reader)) (octet_Reader_Num : octet_Reader → Int → Option (Int × octet_Reader)) (octet_Reader_Rest : octet_Reader → Option ((List UInt8) × octet_Reader)) (octet_Reader_Text : octet_Reader → Int → Option ((List UInt8) × octet_Reader)) (quic_id : octet_Reader → Option ((List UInt8) × Int × octet_Reader)) (s : List UInt8) : Option (quic_Head × Int) :=
  (octet_New s).bind fun n =>
  (octet_Reader_Num n 1).bind fun n1 =>
  (octet_Reader_Bad n1.2).bind fun b =>
  cond (b.1)
    (
    some ((quic_Head.mk false 0 0 [] [] [], 2)))
    (
    cond ((andI .i64 n1.1 64) == 0)
      (
      some ((quic_Head.mk false 0 0 [] [] [], 3)))
      (
      cond (!((andI .i64 n1.1 128) != 0))
        (
        (octet_Reader_Text b.2 8).bind fun t =>
        (octet_Reader_Bad t.2).bind fun b1 =>
        cond (b1.1)
          (
          some ((quic_Head.mk false 0 0 [] [] [], 2)))
          (
          (octet_Reader_Rest b1.2).bind fun xr =>
          some ((quic_Head.mk ((andI .i64 n1.1 128) != 0) (andI .i64 n1.1 63) 0 t.1 [] xr.1, 0))))
        (
        (octet_Reader_Num b.2 4).bind fun n2 =>
        (quic_id n2.2).bind fun i =>
        cond (i.2.1 != 0)
          (
          some ((quic_Head.mk false 0 0 [] [] [], i.2.1)))
          (
          (quic_id i.2.2).bind fun i1 =>
          cond (i1.2.1 != 0)
            (
            some ((quic_Head.mk false 0 0 [] [] [], i1.2.1)))
            (
            (octet_Reader_Rest i1.2.2).bind fun xr1 =>
            some ((quic_Head.mk ((andI .i64 n1.1 128) != 0) (andI .i64 n1.1 63) (wI .u32 n2.1) i.1 i1.1 xr1.1, 0)))))))
def rx83 (x : quic_Head × Int) : SRes := ⟨.tuple ⟨[.agg ⟨[.bool x.1.Long, .int .i64 x.1.Bits, .int .u32 x.1.Version, .string ⟨⟨x.1.DCID⟩⟩, .string ⟨⟨x.1.SCID⟩⟩, .string ⟨⟨x.1.Rest⟩⟩]⟩, .int .i64 x.2]⟩, [], []⟩
def r83 (g : (List UInt8) → Option (quic_Head × Int)) : Dec := dV asS fun (y0 : List UInt8) => dEnd (ofG (g y0) rx83)
theorem r83_c {g : (List UInt8) → Option (quic_Head × Int)} {y0 : List UInt8} {x : quic_Head × Int} (hx : g y0 = some x) : r83 g [.string ⟨⟨y0⟩⟩] [] = some (rx83 x) := (dV_eq (asS_c)).trans (ofG_eq hx)
def s83 (g : (List UInt8) → Option (quic_Head × Int)) : Summ := ⟨[.v], r83 g⟩
theorem r83_eq {g : (List UInt8) → Option (quic_Head × Int)} {y0 : List UInt8} {x : quic_Head × Int} (hx : g y0 = some x) : (s83 g).run [.string ⟨⟨y0⟩⟩] [] = some (rx83 x) := r83_c hx
abbrev sums83 (octet_New : (List UInt8) → Option octet_Reader) (octet_Reader_Bad : octet_Reader → Option (Bool × octet_Reader)) (octet_Reader_Num : octet_Reader → Int → Option (Int × octet_Reader)) (octet_Reader_Rest : octet_Reader → Option ((List UInt8) × octet_Reader)) (octet_Reader_Text : octet_Reader → Int → Option ((List UInt8) × octet_Reader)) (quic_id : octet_Reader → Option ((List UInt8) × Int × octet_Reader)) : List (Nat × Summ) := [(103, s103 octet_New), (105, s105 octet_Reader_Bad), (104, s104 octet_Reader_Num), (107, s107 octet_Reader_Rest), (106, s106 octet_Reader_Text), (109, s109 quic_id)]
theorem leads83 (octet_New : (List UInt8) → Option octet_Reader) (octet_Reader_Bad : octet_Reader → Option (Bool × octet_Reader)) (octet_Reader_Num : octet_Reader → Int → Option (Int × octet_Reader)) (octet_Reader_Rest : octet_Reader → Option ((List UInt8) × octet_Reader)) (octet_Reader_Text : octet_Reader → Int → Option ((List UInt8) × octet_Reader)) (quic_id : octet_Reader → Option ((List UInt8) × Int × octet_Reader)) (hS : SumsOK Try.prog (aget (sums83 octet_New octet_Reader_Bad octet_Reader_Num octet_Reader_Rest octet_Reader_Text quic_id))) (s : List UInt8) (res : quic_Head × Int) (h : quic_GetF octet_New octet_Reader_Bad octet_Reader_Num octet_Reader_Rest octet_Reader_Text quic_id s = some res) :
    Leads Try.prog 83 0 ⟨⟨83, 60, [(0, .string ⟨⟨s⟩⟩)], [.code k83_51], [], false, none⟩, [], [], 0⟩ (fun v H _ => Res 0 (rx83 res) v H) := by
  unfold quic_GetF at h
  refine ev_ok tab_ok hS true 3000 ?_
  conv => whnf
  replace h := obind.elim h; obtain ⟨n, hy, h⟩ := h
  refine sumK.introF [1] (sumRun_of (aqs := [.string ⟨⟨s⟩⟩]) (ws := []) (n := 1) (m := 0) (t' := 2) (ra_cons rfl rfl ra_nil) rfl (by rfl) (r103_eq hy) rfl rfl rfl rfl wb_nil (an_cons (rfl) an_nil) rfl) ?_
  conv => whnf
  replace h := obind.elim h; obtain ⟨n1, hy, h⟩ := h
  refine sumK.introF [1] (sumRun_of (aqs := [.pointer (some ⟨0, 0, none⟩), .int .i64 1]) (ws := [.win 1 0 3 true]) (n := 0) (m := 0) (t' := 2) (ra_cons rfl rfl (ra_cons rfl rfl ra_nil)) rfl (by rfl) (r104_eq hy) rfl rfl rfl rfl (wb_win rfl rfl rfl ⟨rfl, Nat.le_of_ble_eq_true rfl⟩ rfl rfl wb_nil) an_nil rfl) ?_
  conv => whnf
  replace h := obind.elim h; obtain ⟨b, hy, h⟩ := h
  refine sumK.introF [1] (sumRun_of (aqs := [.pointer (some ⟨0, 0, none⟩)]) (ws := [.win 1 0 3 true]) (n := 0) (m := 0) (t' := 2) (ra_cons rfl rfl ra_nil) rfl (by rfl) (r105_eq hy) rfl rfl rfl rfl (wb_win rfl rfl rfl ⟨rfl, Nat.le_of_ble_eq_true rfl⟩ rfl rfl wb_nil) an_nil rfl) ?_
  conv => whnf
  refine br.h h ?_ ?_ ?_
  · rfl
  · clear h; intro hb h; conv => whnf
    all_goals (cases h; exact Res.z rfl rfl rfl)
  clear h; intro hb h; conv => whnf
  refine br.h h ?_ ?_ ?_
  · rfl
  · clear h; intro hb h; conv => whnf
    all_goals (cases h; exact Res.z rfl rfl rfl)
  clear h; intro hb h; conv => whnf
  refine br.h h ?_ ?_ ?_
  · rfl
  · clear h; intro hb h; conv => whnf
    replace h := obind.elim h; obtain ⟨t, hy, h⟩ := h
    refine sumK.introF [1] (sumRun_of (aqs := [.pointer (some ⟨0, 0, none⟩), .int .i64 8]) (ws := [.win 1 0 3 true]) (n := 0) (m := 0) (t' := 3) (ra_cons rfl rfl (ra_cons rfl rfl ra_nil)) rfl (by rfl) (r106_eq hy) rfl rfl rfl rfl (wb_win rfl rfl rfl ⟨rfl, Nat.le_of_ble_eq_true rfl⟩ rfl rfl wb_nil) an_nil rfl) ?_
    conv => whnf
    replace h := obind.elim h; obtain ⟨b1, hy, h⟩ := h
    refine sumK.introF [1] (sumRun_of (aqs := [.pointer (some ⟨0, 0, none⟩)]) (ws := [.win 1 0 3 true]) (n := 0) (m := 0) (t' := 3) (ra_cons rfl rfl ra_nil) rfl (by rfl) (r105_eq hy) rfl rfl rfl rfl (wb_win rfl rfl rfl ⟨rfl, Nat.le_of_ble_eq_true rfl⟩ rfl rfl wb_nil) an_nil rfl) ?_
    conv => whnf
    refine br.h h ?_ ?_ ?_
    · rfl
    · clear h; intro hb h; conv => whnf
      all_goals (cases h; exact Res.z rfl rfl rfl)
    clear h; intro hb h; conv => whnf
    replace h := obind.elim h; obtain ⟨xr, hy, h⟩ := h
    refine sumK.introF [1] (sumRun_of (aqs := [.pointer (some ⟨0, 0, none⟩)]) (ws := [.win 1 0 3 true]) (n := 0) (m := 0) (t' := 3) (ra_cons rfl rfl ra_nil) rfl (by rfl) (r107_eq hy) rfl rfl rfl rfl (wb_win rfl rfl rfl ⟨rfl, Nat.le_of_ble_eq_true rfl⟩ rfl rfl wb_nil) an_nil rfl) ?_
    conv => whnf
    all_goals (cases h; exact Res.z rfl rfl rfl)
  clear h; intro hb h; conv => whnf
  replace h := obind.elim h; obtain ⟨n2, hy, h⟩ := h
  refine sumK.introF [1] (sumRun_of (aqs := [.pointer (some ⟨0, 0, none⟩), .int .i64 4]) (ws := [.win 1 0 3 true]) (n := 0) (m := 0) (t' := 3) (ra_cons rfl rfl (ra_cons rfl rfl ra_nil)) rfl (by rfl) (r104_eq hy) rfl rfl rfl rfl (wb_win rfl rfl rfl ⟨rfl, Nat.le_of_ble_eq_true rfl⟩ rfl rfl wb_nil) an_nil rfl) ?_
  conv => whnf
  refine ev_ok tab_ok hS true 3000 ?_
  conv => whnf
  replace h := obind.elim h; obtain ⟨i, hy, h⟩ := h
  refine sumK.introF [1] (sumRun_of (aqs := [.pointer (some ⟨0, 0, none⟩)]) (ws := [.win 1 0 3 true]) (n := 0) (m := 0) (t' := 4) (ra_cons rfl rfl ra_nil) rfl (by rfl) (r109_eq hy) rfl rfl rfl rfl (wb_win rfl rfl rfl ⟨rfl, Nat.le_of_ble_eq_true rfl⟩ rfl rfl wb_nil) an_nil rfl) ?_
  conv => whnf
  refine br.h h ?_ ?_ ?_
  · rfl
  · clear h; intro hb h; conv => whnf
    refine br.pos ?_ ?_; (focus (clear h; first | assumption | (simp_all; done)))
    conv => whnf
    all_goals (cases h; exact Res.z rfl rfl rfl)
  clear h; intro hb h; conv => whnf
  refine ev_ok tab_ok hS true 3000 ?_
  conv => whnf
  replace h := obind.elim h; obtain ⟨i1, hy, h⟩ := h
  refine sumK.introF [1] (sumRun_of (aqs := [.pointer (some ⟨0, 0, none⟩)]) (ws := [.win 1 0 3 true]) (n := 0) (m := 0) (t' := 4) (ra_cons rfl rfl ra_nil) rfl (by rfl) (r109_eq hy) rfl rfl rfl rfl (wb_win rfl rfl rfl ⟨rfl, Nat.le_of_ble_eq_true rfl⟩ rfl rfl wb_nil) an_nil rfl) ?_
  conv => whnf
  refine br.h h ?_ ?_ ?_
  · rfl
  · clear h; intro hb h; conv => whnf
    refine br.pos ?_ ?_; (focus (clear h; first | assumption | (simp_all; done)))
    conv => whnf
    all_goals (cases h; exact Res.z rfl rfl rfl)
  clear h; intro hb h; conv => whnf
  refine ev_ok tab_ok hS true 3000 ?_
  conv => whnf
  replace h := obind.elim h; obtain ⟨xr1, hy, h⟩ := h
  refine sumK.introF [1] (sumRun_of (aqs := [.pointer (some ⟨0, 0, none⟩)]) (ws := [.win 1 0 3 true]) (n := 0) (m := 0) (t' := 4) (ra_cons rfl rfl ra_nil) rfl (by rfl) (r107_eq hy) rfl rfl rfl rfl (wb_win rfl rfl rfl ⟨rfl, Nat.le_of_ble_eq_true rfl⟩ rfl rfl wb_nil) an_nil rfl) ?_
  conv => whnf
  all_goals (cases h; exact Res.z rfl rfl rfl)
theorem ok83 (octet_New : (List UInt8) → Option octet_Reader) (octet_Reader_Bad : octet_Reader → Option (Bool × octet_Reader)) (octet_Reader_Num : octet_Reader → Int → Option (Int × octet_Reader)) (octet_Reader_Rest : octet_Reader → Option ((List UInt8) × octet_Reader)) (octet_Reader_Text : octet_Reader → Int → Option ((List UInt8) × octet_Reader)) (quic_id : octet_Reader → Option ((List UInt8) × Int × octet_Reader)) (hS : SumsOK Try.prog (aget (sums83 octet_New octet_Reader_Bad octet_Reader_Num octet_Reader_Rest octet_Reader_Text quic_id))) : SumOK Try.prog 83 (s83 (quic_GetF octet_New octet_Reader_Bad octet_Reader_Num octet_Reader_Rest octet_Reader_Text quic_id)) := by
  refine SumOK.of_leads tab_ok (fun ar os r ha hr => ?_) ⟨Try.f83, rfl, by decide, rfl⟩
  replace hr : r83 (quic_GetF octet_New octet_Reader_Bad octet_Reader_Num octet_Reader_Rest octet_Reader_Text quic_id) ar (conts os) = some r := hr
  unfold r83 at hr
  generalize hc : conts os = C at hr
  replace hr := dV.elim hr; obtain ⟨v0, l1, y0, rfl, e0, hr⟩ := hr; obtain rfl := asS_eq _ _ e0
  replace hr := dFin hr; obtain ⟨rfl, rfl, x, h, rfl⟩ := hr
  obtain rfl := kinds_nil hc
  exact ⟨_, rfl, leads83 octet_New octet_Reader_Bad octet_Reader_Num octet_Reader_Rest octet_Reader_Text quic_id hS _ x h⟩
def quic_Get : (List UInt8) → Option (quic_Head × Int) := quic_GetF octet_New octet_Reader_Bad octet_Reader_Num octet_Reader_Rest octet_Reader_Text quic_id
theorem lift83 : SumOK Try.prog 83 (s83 quic_Get) := ok83 octet_New octet_Reader_Bad octet_Reader_Num octet_Reader_Rest octet_Reader_Text quic_id (SumsOK.of_tab ⟨lift103, lift105, lift104, lift107, lift106, lift109, trivial⟩)
end Go.Vm.Code
namespace Go.Vm.Code
open Go Go.Vm
def zeroQ : quic_Head := ⟨false, 0, 0, [], [], []⟩
def idS (s : List UInt8) (p : Nat) : List UInt8 × Int × Nat :=
  if s.length ≤ p then ([], 2, 0) else if 20 < b1 s p then ([], 3, 0) else if s.length < p + 1 + b1 s p then ([], 2, 0) else ((s.drop (p + 1)).take (b1 s p), 0, p + 1 + b1 s p)
theorem i17 : (if (1 : Int) < 1 ∨ (1 : Int) > 7 then -1 else 1 : Int) = 1 := by decide
theorem i47 : (if (4 : Int) < 1 ∨ (4 : Int) > 7 then -1 else 4 : Int) = 4 := by decide
theorem rdr_bad_k (s : List UInt8) (k : Int) : rdr ⟨s, true, true⟩ k = ⟨s, true, true⟩ := by unfold rdr; rw [if_pos (.inl rfl)]
theorem qid_bad (s : List UInt8) (h : s.length < 2 ^ 38) : quic_id ⟨s, true, true⟩ = some ([], 2, ⟨s, true, true⟩) := by
  unfold quic_id quic_idF
  rw [rNum_eq rfl (by simp only []; omega), Option.bind_some]
  simp only [rdr_bad_k]
  rw [rBad_eq rfl, Option.bind_some]
  simp only [Bool.not_true, cond_false]
  rw [rText_eq rfl, Option.bind_some]
  simp only [rdr_bad_k]
  rw [rBad_eq rfl, Option.bind_some]
  rfl
theorem qid_eq {s : List UInt8} {p : Nat} (h : s.length < 2 ^ 38) : ∃ r, quic_id ⟨s.drop p, true, false⟩ = some ((idS s p).1, (idS s p).2.1, r) ∧ ((idS s p).2.1 = 0 → r = ⟨s.drop (idS s p).2.2, true, false⟩) := by
  have hb := b1_lt s p
  have ld : (s.drop p).length = s.length - p := List.length_drop ..
  unfold quic_id quic_idF idS
  rw [rNum_eq rfl (by simp only []; omega), Option.bind_some]
  simp only [rdn, i17]
  by_cases h1 : s.length ≤ p
  · have hr : rdr ⟨s.drop p, true, false⟩ 1 = ⟨s.drop p, true, true⟩ := by unfold rdr; rw [if_pos (.inr (.inr (by simp only []; omega)))]
    rw [if_pos h1, hr, rBad_eq rfl, Option.bind_some]
    simp only [Bool.not_true, cond_false]
    rw [rText_eq rfl, Option.bind_some]
    simp only [rdr_bad_k]
    rw [rBad_eq rfl, Option.bind_some]
    exact ⟨_, rfl, fun q => by cases q⟩
  · rw [if_neg h1, rdr_ok (by omega) (by omega), rdt_ok (by omega) (by omega), show (1 : Int).toNat = 1 from rfl, List.drop_drop, show valL ((s.drop p).take 1) = b1 s p from rfl, rBad_eq rfl, Option.bind_some]
    simp only [Bool.not_false, cond_true]
    have ld2 : (s.drop (p + 1)).length = s.length - (p + 1) := List.length_drop ..
    by_cases h2 : 20 < b1 s p
    · rw [cond_p (by omega), if_pos h2]
      exact ⟨_, rfl, fun q => by cases q⟩
    rw [cond_n (by omega), if_neg h2, rText_eq rfl, Option.bind_some]
    by_cases h3 : s.length < p + 1 + b1 s p
    · have hr : rdr ⟨s.drop (p + 1), true, false⟩ ((b1 s p : Nat) : Int) = ⟨s.drop (p + 1), true, true⟩ := by unfold rdr; rw [if_pos (.inr (.inr (by simp only []; omega)))]
      rw [if_pos h3, hr, rBad_eq rfl, Option.bind_some]
      exact ⟨_, rfl, fun q => by cases q⟩
    · rw [if_neg h3, rdr_ok (by omega) (by omega), rdt_ok (by omega) (by omega), rBad_eq rfl, Option.bind_some, Int.toNat_natCast, List.drop_drop]
      exact ⟨_, rfl, fun _ => rfl⟩
def getQ (s : List UInt8) : quic_Head × Int :=
  if s = [] then (zeroQ, 2) else if b1 s 0 / 64 % 2 = 0 then (zeroQ, 3) else
  if b1 s 0 < 128 then if s.length < 9 then (zeroQ, 2) else (⟨false, ((b1 s 0 % 64 : Nat) : Int), 0, (s.drop 1).take 8, [], s.drop 9⟩, 0)
  else if s.length < 5 then (zeroQ, 2) else if (idS s 5).2.1 ≠ 0 then (zeroQ, (idS s 5).2.1) else if (idS s (idS s 5).2.2).2.1 ≠ 0 then (zeroQ, (idS s (idS s 5).2.2).2.1) else
  (⟨true, ((b1 s 0 % 64 : Nat) : Int), ((valL ((s.drop 1).take 4) : Nat) : Int), (idS s 5).1, (idS s (idS s 5).2.2).1, s.drop (idS s (idS s 5).2.2).2.2⟩, 0)
theorem bitsQ : ∀ v : Fin 256, ((wI .u8 (((v.val : Nat) : Int).tdiv 64)).tmod 2 = ((v.val / 64 % 2 : Nat) : Int) ∧ wI .i64 (((v.val : Nat) : Int).tmod 64) = ((v.val % 64 : Nat) : Int)) ∧ andI .i64 ((v.val : Nat) : Int) 64 = ((v.val / 64 % 2 * 64 : Nat) : Int) ∧ andI .i64 ((v.val : Nat) : Int) 128 = ((v.val / 128 * 128 : Nat) : Int) ∧ andI .i64 ((v.val : Nat) : Int) 63 = ((v.val % 64 : Nat) : Int) := by decide +kernel
theorem rest_eq {r : octet_Reader} (h : r.made = true) (hb : r.bad = false) : octet_Reader_Rest r = some (r.s, rdr r r.s.length) := by
  unfold octet_Reader_Rest octet_Reader_RestF
  rw [rBad_eq h, Option.bind_some]
  simp only [hb, cond_false]
  rw [rText_eq h, Option.bind_some]
  have : rdt r r.s.length = r.s := by unfold rdt; rw [if_neg (by rw [hb]; simp), Int.toNat_natCast, List.take_length]
  rw [this]
theorem qgetQ_eq {s : List UInt8} (h : s.length < 2 ^ 38) : quic_Get s = some (getQ s) := by
  unfold quic_Get quic_GetF getQ
  by_cases h0 : s = []
  · subst h0; decide +kernel
  have hl : 0 < s.length := List.length_pos_iff.2 h0
  have hb := b1_lt s 0
  obtain ⟨-, q1, q2, q3⟩ := bitsQ ⟨b1 s 0, hb⟩
  simp only at q1 q2 q3
  have l1 : (s.drop 1).length = s.length - 1 := List.length_drop ..
  rw [if_neg h0, rNew_eq, Option.bind_some, rNum_eq rfl (by simp only []; omega), Option.bind_some]
  simp only [rdn, i17]
  rw [rdr_ok (by omega) (by omega), rdt_ok (by omega) (by omega), show (1 : Int).toNat = 1 from rfl, rBad_eq rfl, Option.bind_some, show valL (s.take 1) = b1 s 0 from rfl, q1, q2, q3]
  simp only [cond_false]
  by_cases h1 : b1 s 0 / 64 % 2 = 0
  · have : ((((b1 s 0 / 64 % 2 * 64 : Nat) : Int)) == 0) = true := by rw [beq_iff_eq]; omega
    rw [this, cond_true, if_pos h1]; rfl
  have : ((((b1 s 0 / 64 % 2 * 64 : Nat) : Int)) == 0) = false := by rw [beq_eq_false_iff_ne]; omega
  rw [this, cond_false, if_neg h1]
  by_cases h2 : b1 s 0 < 128
  · have : ((((b1 s 0 / 128 * 128 : Nat) : Int)) != 0) = false := by rw [bne_eq_false_iff_eq]; omega
    rw [this, Bool.not_false, cond_true, if_pos h2, rText_eq rfl, Option.bind_some]
    by_cases h3 : s.length < 9
    · have hr : rdr ⟨s.drop 1, true, false⟩ 8 = ⟨s.drop 1, true, true⟩ := by unfold rdr; rw [if_pos (.inr (.inr (by simp only []; omega)))]
      rw [if_pos h3, hr, rBad_eq rfl, Option.bind_some]; rfl
    · rw [if_neg h3, rdr_ok (by omega) (by omega), rdt_ok (by omega) (by omega), rBad_eq rfl, Option.bind_some]
      simp only [cond_false]
      rw [rest_eq rfl rfl, Option.bind_some, List.drop_drop]
      rfl
  · have : ((((b1 s 0 / 128 * 128 : Nat) : Int)) != 0) = true := by rw [bne_iff_ne]; omega
    rw [this, Bool.not_true, cond_false, if_neg h2, rNum_eq rfl (by simp only []; omega), Option.bind_some]
    simp only [rdn, i47]
    by_cases h3 : s.length < 5
    · have hr : rdr ⟨s.drop 1, true, false⟩ 4 = ⟨s.drop 1, true, true⟩ := by unfold rdr; rw [if_pos (.inr (.inr (by simp only []; omega)))]
      rw [if_pos h3, hr, qid_bad _ (by omega), Option.bind_some]; rfl
    have hv : valL ((s.drop 1).take 4) < 2 ^ 32 := val_take_lt _ (by decide)
    obtain ⟨r, er, hr⟩ := qid_eq (s := s) (p := 5) h
    rw [if_neg h3, rdr_ok (by omega) (by omega), rdt_ok (by omega) (by omega), show (4 : Int).toNat = 4 from rfl, List.drop_drop, er, Option.bind_some]
    simp only []
    by_cases h4 : (idS s 5).2.1 = 0
    · have : ((idS s 5).2.1 != 0) = false := by rw [bne_eq_false_iff_eq]; exact h4
      obtain ⟨r', er', hr'⟩ := qid_eq (s := s) (p := (idS s 5).2.2) h
      rw [this, cond_false, if_neg (by omega), hr h4, er', Option.bind_some]
      simp only []
      by_cases h5 : (idS s (idS s 5).2.2).2.1 = 0
      · have : ((idS s (idS s 5).2.2).2.1 != 0) = false := by rw [bne_eq_false_iff_eq]; exact h5
        rw [this, cond_false, if_neg (by omega), hr' h5, rest_eq rfl rfl, Option.bind_some, wU32 (by omega) (by omega)]
      · have : ((idS s (idS s 5).2.2).2.1 != 0) = true := by rw [bne_iff_ne]; exact h5
        rw [this, cond_true, if_pos h5]; rfl
    · have : ((idS s 5).2.1 != 0) = true := by rw [bne_iff_ne]; exact h4
      rw [this, cond_true, if_pos h4]; rfl
end Go.Vm.Code
namespace Go.Vm.Code
open Go Go.Vm Go.Proofs
set_option maxRecDepth 100000
set_option maxHeartbeats 4000000
set_option linter.unusedVariables false
def packet_openedF (ipfour_Get : (List UInt8) → Option (ipfour_Head × (List UInt8) × Int)) (ipsix_Get : (List UInt8) → Option (ipsix_Head × (List UInt8) × Int)) (s : List UInt8) : Option (packet_outer × Int) :=
  (s[0]?).bind fun (b : UInt8) =>
  cond (((b.toNat : Int).fdiv (2 ^ 4)) == 4)
    (
    (ipfour_Get s).bind fun xg =>
    cond (xg.2.2 != 0)
      (
      some ((packet_outer.mk (api_Addr.mk false 0 0) (api_Addr.mk false 0 0) 0 [], xg.2.2)))
      (
      let t := wI .i64 (20 + (xg.1.Options.length : Int))
      let t1 := (s.length : Int) != (wI .i64 (t + (xg.2.1.length : Int)))
      cond (t1)
        (
        some ((packet_outer.mk (api_Addr.mk false 0 0) (api_Addr.mk false 0 0) 0 [], 5)))
        (
        some ((packet_outer.mk xg.1.Src xg.1.Dst xg.1.Proto xg.2.1, 0)))))
    (
    cond (((b.toNat : Int).fdiv (2 ^ 4)) == 6)
      (
      (ipsix_Get s).bind fun xg1 =>
      cond (xg1.2.2 != 0)
        (
        some ((packet_outer.mk (api_Addr.mk false 0 0) (api_Addr.mk false 0 0) 0 [], xg1.2.2)))
        (
        let t2 := (s.length : Int) != (wI .i64 (40 + (xg1.2.1.length : Int)))
        cond (t2)
          (
          some ((packet_outer.mk (api_Addr.mk false 0 0) (api_Addr.mk false 0 0) 0 [], 5)))
          (
          some ((packet_outer.mk xg1.1.Src xg1.1.Dst xg1.1.Next xg1.2.1, 0)))))
      (
      some ((packet_outer.mk (api_Addr.mk false 0 0) (api_Addr.mk false 0 0) 0 [], 3))))
def rx53 (x : packet_outer × Int) : SRes := ⟨.tuple ⟨[.agg ⟨[.bool x.1.src.V6, .int .u64 x.1.src.Hi, .int .u64 x.1.src.Lo, .bool x.1.dst.V6, .int .u64 x.1.dst.Hi, .int .u64 x.1.dst.Lo, .int .i64 x.1.proto, .string ⟨⟨x.1.body⟩⟩]⟩, .int .i64 x.2]⟩, [], []⟩
def r53 (g : (List UInt8) → Option (packet_outer × Int)) : Dec := dV asS fun (y0 : List UInt8) => dEnd (ofG (g y0) rx53)
theorem r53_c {g : (List UInt8) → Option (packet_outer × Int)} {y0 : List UInt8} {x : packet_outer × Int} (hx : g y0 = some x) : r53 g [.string ⟨⟨y0⟩⟩] [] = some (rx53 x) := (dV_eq (asS_c)).trans (ofG_eq hx)
def s53 (g : (List UInt8) → Option (packet_outer × Int)) : Summ := ⟨[.v], r53 g⟩
theorem r53_eq {g : (List UInt8) → Option (packet_outer × Int)} {y0 : List UInt8} {x : packet_outer × Int} (hx : g y0 = some x) : (s53 g).run [.string ⟨⟨y0⟩⟩] [] = some (rx53 x) := r53_c hx
abbrev sums53 (ipfour_Get : (List UInt8) → Option (ipfour_Head × (List UInt8) × Int)) (ipsix_Get : (List UInt8) → Option (ipsix_Head × (List UInt8) × Int)) : List (Nat × Summ) := [(99, s99 ipfour_Get), (100, s100 ipsix_Get)]
theorem leads53 (ipfour_Get : (List UInt8) → Option (ipfour_Head × (List UInt8) × Int)) (ipsix_Get : (List UInt8) → Option (ipsix_Head × (List UInt8) × Int)) (hS : SumsOK Try.prog (aget (sums53 ipfour_Get ipsix_Get))) (s : List UInt8) (res : packet_outer × Int) (h : packet_openedF ipfour_Get ipsix_Get s = some res) :
    Leads Try.prog 53 0 ⟨⟨53, 61, [(0, .string ⟨⟨s⟩⟩)], [.code k53_41], [], false, none⟩, [], [], 0⟩ (fun v H _ => Res 0 (rx53 res) v H) := by
  unfold packet_openedF at h
  refine ev_ok tab_ok hS true 3000 ?_
  conv => whnf
  replace h := obind.elim h; obtain ⟨b, hy, h⟩ := h
  refine rdS.intro hy ?_
  conv => whnf
  refine br.h h ?_ ?_ ?_
  · rfl
  · clear h; intro hb h; conv => whnf
    replace h := obind.elim h; obtain ⟨xg, hy, h⟩ := h
    refine sumK.q rfl rfl (r99_eq hy) rfl rfl rfl ?_
    conv => whnf
    refine br.h h ?_ ?_ ?_
    · rfl
    · clear h; intro hb h; conv => whnf
      all_goals (cases h; exact Res.z rfl rfl rfl)
    clear h; intro hb h; conv => whnf
    let t : Int := wI .i64 (20 + (xg.1.Options.length : Int))
    let t1 : Bool := (s.length : Int) != (wI .i64 (t + (xg.2.1.length : Int)))
    refine br.h h ?_ ?_ ?_
    · rfl
    · clear h; intro hb h; conv => whnf
      all_goals (cases h; exact Res.z rfl rfl rfl)
    clear h; intro hb h; conv => whnf
    all_goals (cases h; exact Res.z rfl rfl rfl)
  clear h; intro hb h; conv => whnf
  refine br.h2 h ?_ ?_ ?_
  · rfl
  · clear h; intro hb h; conv => whnf
    all_goals (cases h; exact Res.z rfl rfl rfl)
  clear h; intro hb h; conv => whnf
  replace h := obind.elim h; obtain ⟨xg1, hy, h⟩ := h
  refine sumK.q rfl rfl (r100_eq hy) rfl rfl rfl ?_
  conv => whnf
  refine br.h h ?_ ?_ ?_
  · rfl
  · clear h; intro hb h; conv => whnf
    all_goals (cases h; exact Res.z rfl rfl rfl)
  clear h; intro hb h; conv => whnf
  let t2 : Bool := (s.length : Int) != (wI .i64 (40 + (xg1.2.1.length : Int)))
  refine br.h h ?_ ?_ ?_
  · rfl
  · clear h; intro hb h; conv => whnf
    all_goals (cases h; exact Res.z rfl rfl rfl)
  clear h; intro hb h; conv => whnf
  all_goals (cases h; exact Res.z rfl rfl rfl)
theorem ok53 (ipfour_Get : (List UInt8) → Option (ipfour_Head × (List UInt8) × Int)) (ipsix_Get : (List UInt8) → Option (ipsix_Head × (List UInt8) × Int)) (hS : SumsOK Try.prog (aget (sums53 ipfour_Get ipsix_Get))) : SumOK Try.prog 53 (s53 (packet_openedF ipfour_Get ipsix_Get)) := by
  refine SumOK.of_leads tab_ok (fun ar os r ha hr => ?_) ⟨Try.f53, rfl, by decide, rfl⟩
  replace hr : r53 (packet_openedF ipfour_Get ipsix_Get) ar (conts os) = some r := hr
  unfold r53 at hr
  generalize hc : conts os = C at hr
  replace hr := dV.elim hr; obtain ⟨v0, l1, y0, rfl, e0, hr⟩ := hr; obtain rfl := asS_eq _ _ e0
  replace hr := dFin hr; obtain ⟨rfl, rfl, x, h, rfl⟩ := hr
  obtain rfl := kinds_nil hc
  exact ⟨_, rfl, leads53 ipfour_Get ipsix_Get hS _ x h⟩
def packet_opened : (List UInt8) → Option (packet_outer × Int) := packet_openedF ipfour_Get ipsix_Get
theorem lift53 : SumOK Try.prog 53 (s53 packet_opened) := ok53 ipfour_Get ipsix_Get (SumsOK.of_tab ⟨lift99, lift100, trivial⟩)
def packet_outer_segmentF (tcp_Get : (List UInt8) → api_Addr → api_Addr → Option (tcp_Head × (List UInt8) × Int)) (tcp_Stamp : (List UInt8) → Option (Int × Int × Int)) (oa0 : packet_outer) (p : api_Packet) : Option (Int × Int × api_Packet) :=
  (tcp_Get oa0.body oa0.src oa0.dst).bind fun xg =>
  cond (xg.2.2 != 0)
    (
    some ((0, xg.2.2, p)))
    (
    (tcp_Stamp xg.1.Options).bind fun s =>
    cond (decide (s.2.2 ≥ 0))
      (
      some (((xg.2.1.length : Int), 0, api_Packet.mk (api_Tuple.mk p.Tuple.Proto p.Tuple.Src p.Tuple.Dst xg.1.SPort xg.1.DPort) xg.1.Flags true s.1 s.2.1 p.Long p.CID p.Size)))
      (
      some (((xg.2.1.length : Int), 0, api_Packet.mk (api_Tuple.mk p.Tuple.Proto p.Tuple.Src p.Tuple.Dst xg.1.SPort xg.1.DPort) xg.1.Flags p.Stamped p.Val p.Echo p.Long p.CID p.Size))))
def rx54 (x : Int × Int × api_Packet) : SRes := ⟨.tuple ⟨[.int .i64 x.1, .int .i64 x.2.1]⟩, [], [some [.int .i64 x.2.2.Tuple.Proto, .bool x.2.2.Tuple.Src.V6, .int .u64 x.2.2.Tuple.Src.Hi, .int .u64 x.2.2.Tuple.Src.Lo, .bool x.2.2.Tuple.Dst.V6, .int .u64 x.2.2.Tuple.Dst.Hi, .int .u64 x.2.2.Tuple.Dst.Lo, .int .i64 x.2.2.Tuple.SPort, .int .i64 x.2.2.Tuple.DPort, .int .i64 x.2.2.Flags, .bool x.2.2.Stamped, .int .u32 x.2.2.Val, .int .u32 x.2.2.Echo, .bool x.2.2.Long, .string ⟨⟨x.2.2.CID⟩⟩, .int .i64 x.2.2.Size]]⟩
def r54 (g : packet_outer → api_Packet → Option (Int × Int × api_Packet)) : Dec := dV uvpacket_outer fun (y0 : packet_outer) => dPt 0 unapi_Packet fun (y1 : api_Packet) => dEnd (ofG (g y0 y1) rx54)
theorem r54_c {g : packet_outer → api_Packet → Option (Int × Int × api_Packet)} {y0 : packet_outer} {y1 : api_Packet} {x : Int × Int × api_Packet} (hx : g y0 y1 = some x) : r54 g [.agg ⟨[.bool y0.src.V6, .int .u64 y0.src.Hi, .int .u64 y0.src.Lo, .bool y0.dst.V6, .int .u64 y0.dst.Hi, .int .u64 y0.dst.Lo, .int .i64 y0.proto, .string ⟨⟨y0.body⟩⟩]⟩, .pointer (some ⟨0, 0, none⟩)] [some [.int .i64 y1.Tuple.Proto, .bool y1.Tuple.Src.V6, .int .u64 y1.Tuple.Src.Hi, .int .u64 y1.Tuple.Src.Lo, .bool y1.Tuple.Dst.V6, .int .u64 y1.Tuple.Dst.Hi, .int .u64 y1.Tuple.Dst.Lo, .int .i64 y1.Tuple.SPort, .int .i64 y1.Tuple.DPort, .int .i64 y1.Flags, .bool y1.Stamped, .int .u32 y1.Val, .int .u32 y1.Echo, .bool y1.Long, .string ⟨⟨y1.CID⟩⟩, .int .i64 y1.Size]] = some (rx54 x) := (dV_eq (uvpacket_outer_c _)).trans ((dPt_eq (unapi_Packet_c _)).trans (ofG_eq hx))
def s54 (g : packet_outer → api_Packet → Option (Int × Int × api_Packet)) : Summ := ⟨[.v, .pt 16], r54 g⟩
theorem r54_eq {g : packet_outer → api_Packet → Option (Int × Int × api_Packet)} {y0 : packet_outer} {y1 : api_Packet} {x : Int × Int × api_Packet} (hx : g y0 y1 = some x) : (s54 g).run [.agg ⟨[.bool y0.src.V6, .int .u64 y0.src.Hi, .int .u64 y0.src.Lo, .bool y0.dst.V6, .int .u64 y0.dst.Hi, .int .u64 y0.dst.Lo, .int .i64 y0.proto, .string ⟨⟨y0.body⟩⟩]⟩, .pointer (some ⟨0, 0, none⟩)] [some [.int .i64 y1.Tuple.Proto, .bool y1.Tuple.Src.V6, .int .u64 y1.Tuple.Src.Hi, .int .u64 y1.Tuple.Src.Lo, .bool y1.Tuple.Dst.V6, .int .u64 y1.Tuple.Dst.Hi, .int .u64 y1.Tuple.Dst.Lo, .int .i64 y1.Tuple.SPort, .int .i64 y1.Tuple.DPort, .int .i64 y1.Flags, .bool y1.Stamped, .int .u32 y1.Val, .int .u32 y1.Echo, .bool y1.Long, .string ⟨⟨y1.CID⟩⟩, .int .i64 y1.Size]] = some (rx54 x) := r54_c hx
abbrev sums54 (tcp_Get : (List UInt8) → api_Addr → api_Addr → Option (tcp_Head × (List UInt8) × Int)) (tcp_Stamp : (List UInt8) → Option (Int × Int × Int)) : List (Nat × Summ) := [(81, s81 tcp_Get), (64, s64 tcp_Stamp)]
theorem leads54 (tcp_Get : (List UInt8) → api_Addr → api_Addr → Option (tcp_Head × (List UInt8) × Int)) (tcp_Stamp : (List UInt8) → Option (Int × Int × Int)) (hS : SumsOK Try.prog (aget (sums54 tcp_Get tcp_Stamp))) (oa0 : packet_outer) (p : api_Packet) (res : Int × Int × api_Packet) (h : packet_outer_segmentF tcp_Get tcp_Stamp oa0 p = some res) :
    Leads Try.prog 54 1 ⟨⟨54, 65, [(0, .agg ⟨[.bool oa0.src.V6, .int .u64 oa0.src.Hi, .int .u64 oa0.src.Lo, .bool oa0.dst.V6, .int .u64 oa0.dst.Hi, .int .u64 oa0.dst.Lo, .int .i64 oa0.proto, .string ⟨⟨oa0.body⟩⟩]⟩), (1, .pointer (some ⟨0, 0, none⟩))], [.code k54_20], [], false, none⟩, [], [(0, .cells [.int .i64 p.Tuple.Proto, .bool p.Tuple.Src.V6, .int .u64 p.Tuple.Src.Hi, .int .u64 p.Tuple.Src.Lo, .bool p.Tuple.Dst.V6, .int .u64 p.Tuple.Dst.Hi, .int .u64 p.Tuple.Dst.Lo, .int .i64 p.Tuple.SPort, .int .i64 p.Tuple.DPort, .int .i64 p.Flags, .bool p.Stamped, .int .u32 p.Val, .int .u32 p.Echo, .bool p.Long, .string ⟨⟨p.CID⟩⟩, .int .i64 p.Size])], 1⟩ (fun v H _ => Res 1 (rx54 res) v H) := by
  unfold packet_outer_segmentF at h
  refine ev_ok tab_ok hS true 3000 ?_
  conv => whnf
  replace h := obind.elim h; obtain ⟨xg, hy, h⟩ := h
  refine sumK.q rfl rfl (r81_eq hy) rfl rfl rfl ?_
  conv => whnf
  refine br.h h ?_ ?_ ?_
  · rfl
  · clear h; intro hb h; conv => whnf
    all_goals (cases h)
    all_goals exact Res.of [] rfl nw_0 (by decide) js_0 (wr_s (rfl) (hs_cells rfl) wr_0)
  clear h; intro hb h; conv => whnf
  replace h := obind.elim h; obtain ⟨s, hy, h⟩ := h
  refine sumK.q rfl rfl (r64_eq hy) rfl rfl rfl ?_
  conv => whnf
  refine br.h h ?_ ?_ ?_
  · rfl
  · clear h; intro hb h; conv => whnf
    all_goals (cases h)
    all_goals exact Res.of [] rfl nw_0 (by decide) js_0 (wr_s (rfl) (hs_cells rfl) wr_0)
  clear h; intro hb h; conv => whnf
  all_goals (cases h)
  all_goals exact Res.of [] rfl nw_0 (by decide) js_0 (wr_s (rfl) (hs_cells rfl) wr_0)
theorem ok54 (tcp_Get : (List UInt8) → api_Addr → api_Addr → Option (tcp_Head × (List UInt8) × Int)) (tcp_Stamp : (List UInt8) → Option (Int × Int × Int)) (hS : SumsOK Try.prog (aget (sums54 tcp_Get tcp_Stamp))) : SumOK Try.prog 54 (s54 (packet_outer_segmentF tcp_Get tcp_Stamp)) := by
  refine SumOK.of_leads tab_ok (fun ar os r ha hr => ?_) ⟨Try.f54, rfl, by decide, rfl⟩
  replace hr : r54 (packet_outer_segmentF tcp_Get tcp_Stamp) ar (conts os) = some r := hr
  unfold r54 at hr
  generalize hc : conts os = C at hr
  replace hr := dV.elim hr; obtain ⟨v0, l1, y0, rfl, e0, hr⟩ := hr; obtain rfl := uvpacket_outer_eq _ _ e0
  have hq := dPt.elim hr; clear hr; obtain ⟨c1, l2, C, y1, rfl, rfl, e1, hr⟩ := hq; obtain rfl := unapi_Packet_eq _ _ e1
  replace hr := dFin hr; obtain ⟨rfl, rfl, x, h, rfl⟩ := hr
  obtain ⟨os, rfl, ha, hc⟩ := kinds_some ha hc
  obtain rfl := kinds_nil hc
  exact ⟨_, rfl, leads54 tcp_Get tcp_Stamp hS _ _ x h⟩
def packet_outer_segment : packet_outer → api_Packet → Option (Int × Int × api_Packet) := packet_outer_segmentF tcp_Get tcp_Stamp
theorem lift54 : SumOK Try.prog 54 (s54 packet_outer_segment) := ok54 tcp_Get tcp_Stamp (SumsOK.of_tab ⟨lift81, lift64, trivial⟩)
def packet_outer_datagramF (quic_Get : (List UInt8) → Option (quic_Head × Int)) (udp_Get : (List UInt8) → api_Addr → api_Addr → Option (udp_Head × (List UInt8) × Int)) (oa0 : packet_outer) (p : api_Packet) : Option (Int × Int × api_Packet) :=
  (udp_Get oa0.body oa0.src oa0.dst).bind fun xg =>
  cond (xg.2.2 != 0)
    (
    some ((0, xg.2.2, p)))
    (
    let t := (xg.2.1.length : Int) != (wI .i64 ((oa0.body.length : Int) - 8))
    cond (t)
      (
      some ((0, 5, p)))
      (
      (quic_Get xg.2.1).bind fun xg1 =>
      cond (xg1.2 == 0)
        (
        some (((xg.2.1.length : Int), 0, api_Packet.mk (api_Tuple.mk p.Tuple.Proto p.Tuple.Src p.Tuple.Dst xg.1.SPort xg.1.DPort) p.Flags p.Stamped p.Val p.Echo xg1.1.Long xg1.1.DCID p.Size)))
        (
        some (((xg.2.1.length : Int), 0, api_Packet.mk (api_Tuple.mk p.Tuple.Proto p.Tuple.Src p.Tuple.Dst xg.1.SPort xg.1.DPort) p.Flags p.Stamped p.Val p.Echo p.Long p.CID p.Size)))))
def rx55 (x : Int × Int × api_Packet) : SRes := ⟨.tuple ⟨[.int .i64 x.1, .int .i64 x.2.1]⟩, [], [some [.int .i64 x.2.2.Tuple.Proto, .bool x.2.2.Tuple.Src.V6, .int .u64 x.2.2.Tuple.Src.Hi, .int .u64 x.2.2.Tuple.Src.Lo, .bool x.2.2.Tuple.Dst.V6, .int .u64 x.2.2.Tuple.Dst.Hi, .int .u64 x.2.2.Tuple.Dst.Lo, .int .i64 x.2.2.Tuple.SPort, .int .i64 x.2.2.Tuple.DPort, .int .i64 x.2.2.Flags, .bool x.2.2.Stamped, .int .u32 x.2.2.Val, .int .u32 x.2.2.Echo, .bool x.2.2.Long, .string ⟨⟨x.2.2.CID⟩⟩, .int .i64 x.2.2.Size]]⟩
def r55 (g : packet_outer → api_Packet → Option (Int × Int × api_Packet)) : Dec := dV uvpacket_outer fun (y0 : packet_outer) => dPt 0 unapi_Packet fun (y1 : api_Packet) => dEnd (ofG (g y0 y1) rx55)
theorem r55_c {g : packet_outer → api_Packet → Option (Int × Int × api_Packet)} {y0 : packet_outer} {y1 : api_Packet} {x : Int × Int × api_Packet} (hx : g y0 y1 = some x) : r55 g [.agg ⟨[.bool y0.src.V6, .int .u64 y0.src.Hi, .int .u64 y0.src.Lo, .bool y0.dst.V6, .int .u64 y0.dst.Hi, .int .u64 y0.dst.Lo, .int .i64 y0.proto, .string ⟨⟨y0.body⟩⟩]⟩, .pointer (some ⟨0, 0, none⟩)] [some [.int .i64 y1.Tuple.Proto, .bool y1.Tuple.Src.V6, .int .u64 y1.Tuple.Src.Hi, .int .u64 y1.Tuple.Src.Lo, .bool y1.Tuple.Dst.V6, .int .u64 y1.Tuple.Dst.Hi, .int .u64 y1.Tuple.Dst.Lo, .int .i64 y1.Tuple.SPort, .int .i64 y1.Tuple.DPort, .int .i64 y1.Flags, .bool y1.Stamped, .int .u32 y1.Val, .int .u32 y1.Echo, .bool y1.Long, .string ⟨⟨y1.CID⟩⟩, .int .i64 y1.Size]] = some (rx55 x) := (dV_eq (uvpacket_outer_c _)).trans ((dPt_eq (unapi_Packet_c _)).trans (ofG_eq hx))
def s55 (g : packet_outer → api_Packet → Option (Int × Int × api_Packet)) : Summ := ⟨[.v, .pt 16], r55 g⟩
theorem r55_eq {g : packet_outer → api_Packet → Option (Int × Int × api_Packet)} {y0 : packet_outer} {y1 : api_Packet} {x : Int × Int × api_Packet} (hx : g y0 y1 = some x) : (s55 g).run [.agg ⟨[.bool y0.src.V6, .int .u64 y0.src.Hi, .int .u64 y0.src.Lo, .bool y0.dst.V6, .int .u64 y0.dst.Hi, .int .u64 y0.dst.Lo, .int .i64 y0.proto, .string ⟨⟨y0.body⟩⟩]⟩, .pointer (some ⟨0, 0, none⟩)] [some [.int .i64 y1.Tuple.Proto, .bool y1.Tuple.Src.V6, .int .u64 y1.Tuple.Src.Hi, .int .u64 y1.Tuple.Src.Lo, .bool y1.Tuple.Dst.V6, .int .u64 y1.Tuple.Dst.Hi, .int .u64 y1.Tuple.Dst.Lo, .int .i64 y1.Tuple.SPort, .int .i64 y1.Tuple.DPort, .int .i64 y1.Flags, .bool y1.Stamped, .int .u32 y1.Val, .int .u32 y1.Echo, .bool y1.Long, .string ⟨⟨y1.CID⟩⟩, .int .i64 y1.Size]] = some (rx55 x) := r55_c hx
abbrev sums55 (quic_Get : (List UInt8) → Option (quic_Head × Int)) (udp_Get : (List UInt8) → api_Addr → api_Addr → Option (udp_Head × (List UInt8) × Int)) : List (Nat × Summ) := [(83, s83 quic_Get), (82, s82 udp_Get)]
theorem leads55 (quic_Get : (List UInt8) → Option (quic_Head × Int)) (udp_Get : (List UInt8) → api_Addr → api_Addr → Option (udp_Head × (List UInt8) × Int)) (hS : SumsOK Try.prog (aget (sums55 quic_Get udp_Get))) (oa0 : packet_outer) (p : api_Packet) (res : Int × Int × api_Packet) (h : packet_outer_datagramF quic_Get udp_Get oa0 p = some res) :
    Leads Try.prog 55 1 ⟨⟨55, 65, [(0, .agg ⟨[.bool oa0.src.V6, .int .u64 oa0.src.Hi, .int .u64 oa0.src.Lo, .bool oa0.dst.V6, .int .u64 oa0.dst.Hi, .int .u64 oa0.dst.Lo, .int .i64 oa0.proto, .string ⟨⟨oa0.body⟩⟩]⟩), (1, .pointer (some ⟨0, 0, none⟩))], [.code k55_26], [], false, none⟩, [], [(0, .cells [.int .i64 p.Tuple.Proto, .bool p.Tuple.Src.V6, .int .u64 p.Tuple.Src.Hi, .int .u64 p.Tuple.Src.Lo, .bool p.Tuple.Dst.V6, .int .u64 p.Tuple.Dst.Hi, .int .u64 p.Tuple.Dst.Lo, .int .i64 p.Tuple.SPort, .int .i64 p.Tuple.DPort, .int .i64 p.Flags, .bool p.Stamped, .int .u32 p.Val, .int .u32 p.Echo, .bool p.Long, .string ⟨⟨p.CID⟩⟩, .int .i64 p.Size])], 1⟩ (fun v H _ => Res 1 (rx55 res) v H) := by
  unfold packet_outer_datagramF at h
  refine ev_ok tab_ok hS true 3000 ?_
  conv => whnf
  replace h := obind.elim h; obtain ⟨xg, hy, h⟩ := h
  refine sumK.q rfl rfl (r82_eq hy) rfl rfl rfl ?_
  conv => whnf
  refine br.h h ?_ ?_ ?_
  · rfl
  · clear h; intro hb h; conv => whnf
    all_goals (cases h)
    all_goals exact Res.of [] rfl nw_0 (by decide) js_0 (wr_s (rfl) (hs_cells rfl) wr_0)
  clear h; intro hb h; conv => whnf
  let t : Bool := (xg.2.1.length : Int) != (wI .i64 ((oa0.body.length : Int) - 8))
  refine br.h h ?_ ?_ ?_
  · rfl
  · clear h; intro hb h; conv => whnf
    all_goals (cases h)
    all_goals exact Res.of [] rfl nw_0 (by decide) js_0 (wr_s (rfl) (hs_cells rfl) wr_0)
  clear h; intro hb h; conv => whnf
  replace h := obind.elim h; obtain ⟨xg1, hy, h⟩ := h
  refine sumK.q rfl rfl (r83_eq hy) rfl rfl rfl ?_
  conv => whnf
  refine br.h h ?_ ?_ ?_
  · rfl
  · clear h; intro hb h; conv => whnf
    all_goals (cases h)
    all_goals exact Res.of [] rfl nw_0 (by decide) js_0 (wr_s (rfl) (hs_cells rfl) wr_0)
  clear h; intro hb h; conv => whnf
  all_goals (cases h)
  all_goals exact Res.of [] rfl nw_0 (by decide) js_0 (wr_s (rfl) (hs_cells rfl) wr_0)
theorem ok55 (quic_Get : (List UInt8) → Option (quic_Head × Int)) (udp_Get : (List UInt8) → api_Addr → api_Addr → Option (udp_Head × (List UInt8) × Int)) (hS : SumsOK Try.prog (aget (sums55 quic_Get udp_Get))) : SumOK Try.prog 55 (s55 (packet_outer_datagramF quic_Get udp_Get)) := by
  refine SumOK.of_leads tab_ok (fun ar os r ha hr => ?_) ⟨Try.f55, rfl, by decide, rfl⟩
  replace hr : r55 (packet_outer_datagramF quic_Get udp_Get) ar (conts os) = some r := hr
  unfold r55 at hr
  generalize hc : conts os = C at hr
  replace hr := dV.elim hr; obtain ⟨v0, l1, y0, rfl, e0, hr⟩ := hr; obtain rfl := uvpacket_outer_eq _ _ e0
  have hq := dPt.elim hr; clear hr; obtain ⟨c1, l2, C, y1, rfl, rfl, e1, hr⟩ := hq; obtain rfl := unapi_Packet_eq _ _ e1
  replace hr := dFin hr; obtain ⟨rfl, rfl, x, h, rfl⟩ := hr
  obtain ⟨os, rfl, ha, hc⟩ := kinds_some ha hc
  obtain rfl := kinds_nil hc
  exact ⟨_, rfl, leads55 quic_Get udp_Get hS _ _ x h⟩
def packet_outer_datagram : packet_outer → api_Packet → Option (Int × Int × api_Packet) := packet_outer_datagramF quic_Get udp_Get
theorem lift55 : SumOK Try.prog 55 (s55 packet_outer_datagram) := ok55 quic_Get udp_Get (SumsOK.of_tab ⟨lift83, lift82, trivial⟩)
def packet_toldF (packet_opened : (List UInt8) → Option (packet_outer × Int)) (packet_outer_datagram : packet_outer → api_Packet → Option (Int × Int × api_Packet)) (packet_outer_segment : packet_outer → api_Packet → Option (Int × Int × api_Packet)) (s : List UInt8) : Option (api_Packet × Int × Int × Int) :=
  cond (decide ((s.length : Int) > 9000))
    (
    some ((api_Packet.mk (api_Tuple.mk 0 (api_Addr.mk false 0 0) (api_Addr.mk false 0 0) 0 0) 0 false 0 0 false [] 0, 0, 0, 5)))
    (
    cond (s == [])
      (
      some ((api_Packet.mk (api_Tuple.mk 0 (api_Addr.mk false 0 0) (api_Addr.mk false 0 0) 0 0) 0 false 0 0 false [] 0, 0, 0, 2)))
      (
      (packet_opened s).bind fun xo =>
      cond (xo.2 != 0)
        (
        some ((api_Packet.mk (api_Tuple.mk 0 (api_Addr.mk false 0 0) (api_Addr.mk false 0 0) 0 0) 0 false 0 0 false [] 0, 0, 0, xo.2)))
        (
        cond (xo.1.proto == 6)
          (
          (packet_outer_segment xo.1 (api_Packet.mk (api_Tuple.mk xo.1.proto xo.1.src xo.1.dst 0 0) 0 false 0 0 false [] (s.length : Int))).bind fun s1 =>
          cond (s1.2.1 != 0)
            (
            some ((api_Packet.mk (api_Tuple.mk 0 (api_Addr.mk false 0 0) (api_Addr.mk false 0 0) 0 0) 0 false 0 0 false [] 0, 0, 0, s1.2.1)))
            (
            some ((s1.2.2, (xo.1.body.length : Int), s1.1, 0))))
          (
          cond (xo.1.proto == 17)
            (
            (packet_outer_datagram xo.1 (api_Packet.mk (api_Tuple.mk xo.1.proto xo.1.src xo.1.dst 0 0) 0 false 0 0 false [] (s.length : Int))).bind fun d =>
            cond (d.2.1 != 0)
              (
              some ((api_Packet.mk (api_Tuple.mk 0 (api_Addr.mk false 0 0) (api_Addr.mk false 0 0) 0 0) 0 false 0 0 false [] 0, 0, 0, d.2.1)))
              (
              some ((d.2.2, (xo.1.body.length : Int), d.1, 0))))
            (
            some ((api_Packet.mk (api_Tuple.mk 0 (api_Addr.mk false 0 0) (api_Addr.mk false 0 0) 0 0) 0 false 0 0 false [] 0, 0, 0, 6)))))))
def rx34 (x : api_Packet × Int × Int × Int) : SRes := ⟨.tuple ⟨[.agg ⟨[.int .i64 x.1.Tuple.Proto, .bool x.1.Tuple.Src.V6, .int .u64 x.1.Tuple.Src.Hi, .int .u64 x.1.Tuple.Src.Lo, .bool x.1.Tuple.Dst.V6, .int .u64 x.1.Tuple.Dst.Hi, .int .u64 x.1.Tuple.Dst.Lo, .int .i64 x.1.Tuple.SPort, .int .i64 x.1.Tuple.DPort, .int .i64 x.1.Flags, .bool x.1.Stamped, .int .u32 x.1.Val, .int .u32 x.1.Echo, .bool x.1.Long, .string ⟨⟨x.1.CID⟩⟩, .int .i64 x.1.Size]⟩, .int .i64 x.2.1, .int .i64 x.2.2.1, .int .i64 x.2.2.2]⟩, [], []⟩
def r34 (g : (List UInt8) → Option (api_Packet × Int × Int × Int)) : Dec := dV asS fun (y0 : List UInt8) => dEnd (ofG (g y0) rx34)
theorem r34_c {g : (List UInt8) → Option (api_Packet × Int × Int × Int)} {y0 : List UInt8} {x : api_Packet × Int × Int × Int} (hx : g y0 = some x) : r34 g [.string ⟨⟨y0⟩⟩] [] = some (rx34 x) := (dV_eq (asS_c)).trans (ofG_eq hx)
def s34 (g : (List UInt8) → Option (api_Packet × Int × Int × Int)) : Summ := ⟨[.v], r34 g⟩
theorem r34_eq {g : (List UInt8) → Option (api_Packet × Int × Int × Int)} {y0 : List UInt8} {x : api_Packet × Int × Int × Int} (hx : g y0 = some x) : (s34 g).run [.string ⟨⟨y0⟩⟩] [] = some (rx34 x) := r34_c hx
abbrev sums34 (packet_opened : (List UInt8) → Option (packet_outer × Int)) (packet_outer_datagram : packet_outer → api_Packet → Option (Int × Int × api_Packet)) (packet_outer_segment : packet_outer → api_Packet → Option (Int × Int × api_Packet)) : List (Nat × Summ) := [(53, s53 packet_opened), (55, s55 packet_outer_datagram), (54, s54 packet_outer_segment)]
theorem leads34 (packet_opened : (List UInt8) → Option (packet_outer × Int)) (packet_outer_datagram : packet_outer → api_Packet → Option (Int × Int × api_Packet)) (packet_outer_segment : packet_outer → api_Packet → Option (Int × Int × api_Packet)) (hS : SumsOK Try.prog (aget (sums34 packet_opened packet_outer_datagram packet_outer_segment))) (s : List UInt8) (res : api_Packet × Int × Int × Int) (h : packet_toldF packet_opened packet_outer_datagram packet_outer_segment s = some res) :
    Leads Try.prog 34 0 ⟨⟨34, 63, [(0, .string ⟨⟨s⟩⟩)], [.code k34_46], [], false, none⟩, [], [], 0⟩ (fun v H _ => Res 0 (rx34 res) v H) := by
  unfold packet_toldF at h
  refine ev_ok tab_ok hS true 3000 ?_
  conv => whnf
  refine br.h h ?_ ?_ ?_
  · rfl
  · clear h; intro hb h; conv => whnf
    all_goals (cases h; exact Res.z rfl rfl rfl)
  clear h; intro hb h; conv => whnf
  refine br.h h ?_ ?_ ?_
  · rfl
  · clear h; intro hb h; conv => whnf
    all_goals (cases h; exact Res.z rfl rfl rfl)
  clear h; intro hb h; conv => whnf
  replace h := obind.elim h; obtain ⟨xo, hy, h⟩ := h
  refine sumK.q rfl rfl (r53_eq hy) rfl rfl rfl ?_
  conv => whnf
  refine br.h h ?_ ?_ ?_
  · rfl
  · clear h; intro hb h; conv => whnf
    all_goals (cases h; exact Res.z rfl rfl rfl)
  clear h; intro hb h; conv => whnf
  refine br.h h ?_ ?_ ?_
  · rfl
  · clear h; intro hb h; conv => whnf
    replace h := obind.elim h; obtain ⟨s1, hy, h⟩ := h
    refine sumK.introF [2] (sumRun_of (aqs := [.agg ⟨[.bool xo.1.src.V6, .int .u64 xo.1.src.Hi, .int .u64 xo.1.src.Lo, .bool xo.1.dst.V6, .int .u64 xo.1.dst.Hi, .int .u64 xo.1.dst.Lo, .int .i64 xo.1.proto, .string ⟨⟨xo.1.body⟩⟩]⟩, .pointer (some ⟨0, 0, none⟩)]) (ws := [.win 2 0 16 true]) (n := 0) (m := 0) (t' := 3) (ra_cons rfl rfl (ra_cons rfl rfl ra_nil)) rfl (by rfl) (r54_eq hy) rfl rfl rfl rfl (wb_win rfl rfl rfl ⟨rfl, Nat.le_of_ble_eq_true rfl⟩ rfl rfl wb_nil) an_nil rfl) ?_
    conv => whnf
    refine br.h h ?_ ?_ ?_
    · rfl
    · clear h; intro hb h; conv => whnf
      all_goals (cases h; exact Res.z rfl rfl rfl)
    clear h; intro hb h; conv => whnf
    all_goals (cases h; exact Res.z rfl rfl rfl)
  clear h; intro hb h; conv => whnf
  refine br.h2 h ?_ ?_ ?_
  · rfl
  · clear h; intro hb h; conv => whnf
    all_goals (cases h; exact Res.z rfl rfl rfl)
  clear h; intro hb h; conv => whnf
  replace h := obind.elim h; obtain ⟨d, hy, h⟩ := h
  refine sumK.introF [2] (sumRun_of (aqs := [.agg ⟨[.bool xo.1.src.V6, .int .u64 xo.1.src.Hi, .int .u64 xo.1.src.Lo, .bool xo.1.dst.V6, .int .u64 xo.1.dst.Hi, .int .u64 xo.1.dst.Lo, .int .i64 xo.1.proto, .string ⟨⟨xo.1.body⟩⟩]⟩, .pointer (some ⟨0, 0, none⟩)]) (ws := [.win 2 0 16 true]) (n := 0) (m := 0) (t' := 3) (ra_cons rfl rfl (ra_cons rfl rfl ra_nil)) rfl (by rfl) (r55_eq hy) rfl rfl rfl rfl (wb_win rfl rfl rfl ⟨rfl, Nat.le_of_ble_eq_true rfl⟩ rfl rfl wb_nil) an_nil rfl) ?_
  conv => whnf
  refine br.h h ?_ ?_ ?_
  · rfl
  · clear h; intro hb h; conv => whnf
    all_goals (cases h; exact Res.z rfl rfl rfl)
  clear h; intro hb h; conv => whnf
  all_goals (cases h; exact Res.z rfl rfl rfl)
theorem ok34 (packet_opened : (List UInt8) → Option (packet_outer × Int)) (packet_outer_datagram : packet_outer → api_Packet → Option (Int × Int × api_Packet)) (packet_outer_segment : packet_outer → api_Packet → Option (Int × Int × api_Packet)) (hS : SumsOK Try.prog (aget (sums34 packet_opened packet_outer_datagram packet_outer_segment))) : SumOK Try.prog 34 (s34 (packet_toldF packet_opened packet_outer_datagram packet_outer_segment)) := by
  refine SumOK.of_leads tab_ok (fun ar os r ha hr => ?_) ⟨Try.f34, rfl, by decide, rfl⟩
  replace hr : r34 (packet_toldF packet_opened packet_outer_datagram packet_outer_segment) ar (conts os) = some r := hr
  unfold r34 at hr
  generalize hc : conts os = C at hr
  replace hr := dV.elim hr; obtain ⟨v0, l1, y0, rfl, e0, hr⟩ := hr; obtain rfl := asS_eq _ _ e0
  replace hr := dFin hr; obtain ⟨rfl, rfl, x, h, rfl⟩ := hr
  obtain rfl := kinds_nil hc
  exact ⟨_, rfl, leads34 packet_opened packet_outer_datagram packet_outer_segment hS _ x h⟩
def packet_told : (List UInt8) → Option (api_Packet × Int × Int × Int) := packet_toldF packet_opened packet_outer_datagram packet_outer_segment
theorem lift34 : SumOK Try.prog 34 (s34 packet_told) := ok34 packet_opened packet_outer_datagram packet_outer_segment (SumsOK.of_tab ⟨lift53, lift55, lift54, trivial⟩)
def packet_ParseF (packet_told : (List UInt8) → Option (api_Packet × Int × Int × Int)) (s : List UInt8) : Option (api_Packet × Int) :=
  (packet_told s).bind fun t =>
  some ((t.1, t.2.2.2))
def rx16 (x : api_Packet × Int) : SRes := ⟨.tuple ⟨[.agg ⟨[.int .i64 x.1.Tuple.Proto, .bool x.1.Tuple.Src.V6, .int .u64 x.1.Tuple.Src.Hi, .int .u64 x.1.Tuple.Src.Lo, .bool x.1.Tuple.Dst.V6, .int .u64 x.1.Tuple.Dst.Hi, .int .u64 x.1.Tuple.Dst.Lo, .int .i64 x.1.Tuple.SPort, .int .i64 x.1.Tuple.DPort, .int .i64 x.1.Flags, .bool x.1.Stamped, .int .u32 x.1.Val, .int .u32 x.1.Echo, .bool x.1.Long, .string ⟨⟨x.1.CID⟩⟩, .int .i64 x.1.Size]⟩, .int .i64 x.2]⟩, [], []⟩
def r16 (g : (List UInt8) → Option (api_Packet × Int)) : Dec := dV asS fun (y0 : List UInt8) => dEnd (ofG (g y0) rx16)
theorem r16_c {g : (List UInt8) → Option (api_Packet × Int)} {y0 : List UInt8} {x : api_Packet × Int} (hx : g y0 = some x) : r16 g [.string ⟨⟨y0⟩⟩] [] = some (rx16 x) := (dV_eq (asS_c)).trans (ofG_eq hx)
def s16 (g : (List UInt8) → Option (api_Packet × Int)) : Summ := ⟨[.v], r16 g⟩
theorem r16_eq {g : (List UInt8) → Option (api_Packet × Int)} {y0 : List UInt8} {x : api_Packet × Int} (hx : g y0 = some x) : (s16 g).run [.string ⟨⟨y0⟩⟩] [] = some (rx16 x) := r16_c hx
abbrev sums16 (packet_told : (List UInt8) → Option (api_Packet × Int × Int × Int)) : List (Nat × Summ) := [(34, s34 packet_told)]
theorem leads16 (packet_told : (List UInt8) → Option (api_Packet × Int × Int × Int)) (hS : SumsOK Try.prog (aget (sums16 packet_told))) (s : List UInt8) (res : api_Packet × Int) (h : packet_ParseF packet_told s = some res) :
    Leads Try.prog 16 0 ⟨⟨16, 17, [(0, .string ⟨⟨s⟩⟩)], [.code k16_5], [], false, none⟩, [], [], 0⟩ (fun v H _ => Res 0 (rx16 res) v H) := by
  unfold packet_ParseF at h
  refine ev_ok tab_ok hS true 3000 ?_
  conv => whnf
  replace h := obind.elim h; obtain ⟨t, hy, h⟩ := h
  refine sumK.q rfl rfl (r34_eq hy) rfl rfl rfl ?_
  conv => whnf
  all_goals (cases h; exact Res.z rfl rfl rfl)
theorem ok16 (packet_told : (List UInt8) → Option (api_Packet × Int × Int × Int)) (hS : SumsOK Try.prog (aget (sums16 packet_told))) : SumOK Try.prog 16 (s16 (packet_ParseF packet_told)) := by
  refine SumOK.of_leads tab_ok (fun ar os r ha hr => ?_) ⟨Try.f16, rfl, by decide, rfl⟩
  replace hr : r16 (packet_ParseF packet_told) ar (conts os) = some r := hr
  unfold r16 at hr
  generalize hc : conts os = C at hr
  replace hr := dV.elim hr; obtain ⟨v0, l1, y0, rfl, e0, hr⟩ := hr; obtain rfl := asS_eq _ _ e0
  replace hr := dFin hr; obtain ⟨rfl, rfl, x, h, rfl⟩ := hr
  obtain rfl := kinds_nil hc
  exact ⟨_, rfl, leads16 packet_told hS _ x h⟩
def packet_Parse : (List UInt8) → Option (api_Packet × Int) := packet_ParseF packet_told
theorem lift16 : SumOK Try.prog 16 (s16 packet_Parse) := ok16 packet_told (SumsOK.of_tab ⟨lift34, trivial⟩)
end Go.Vm.Code
namespace Go.Vm.Code
open Go Go.Vm
def zP : api_Packet := ⟨⟨0, ⟨false, 0, 0⟩, ⟨false, 0, 0⟩, 0, 0⟩, 0, false, 0, 0, false, [], 0⟩
structure O11 where
  src : api_Addr
  dst : api_Addr
  proto : Int
  size : Nat
  body : List UInt8
  err : Int
def zO (e : Int) : O11 := ⟨⟨false, 0, 0⟩, ⟨false, 0, 0⟩, 0, 0, [], e⟩
def open11 (s : List UInt8) : O11 :=
  if vK s 0 1 / 16 = 4 then (if (get5 s).2.2 ≠ 0 then zO (get5 s).2.2 else if s.length ≠ 20 + (get5 s).1.Options.length + (get5 s).2.1.length then zO 5 else ⟨(get5 s).1.Src, (get5 s).1.Dst, (get5 s).1.Proto, 20 + (get5 s).1.Options.length, (get5 s).2.1, 0⟩)
  else if vK s 0 1 / 16 = 6 then (if (get6 s).2.2 ≠ 0 then zO (get6 s).2.2 else if s.length ≠ 40 + (get6 s).2.1.length then zO 5 else ⟨(get6 s).1.Src, (get6 s).1.Dst, (get6 s).1.Next, 40, (get6 s).2.1, 0⟩)
  else zO 3
def st11 (o : List UInt8) : Bool × Int × Int := if 0 ≤ (stamp7 o).2.2 then (true, (stamp7 o).1, (stamp7 o).2.1) else (false, 0, 0)
def qc11 (b : List UInt8) : Bool × List UInt8 := if (getQ b).2 = 0 then ((getQ b).1.Long, (getQ b).1.DCID) else (false, [])
def in11 (o : O11) (n : Nat) : api_Packet × Nat × Int :=
  if o.proto = 6 then (if (get7 o.body o.src o.dst).2.2 ≠ 0 then (zP, 0, (get7 o.body o.src o.dst).2.2) else
      (⟨⟨o.proto, o.src, o.dst, (get7 o.body o.src o.dst).1.SPort, (get7 o.body o.src o.dst).1.DPort⟩, (get7 o.body o.src o.dst).1.Flags, (st11 (get7 o.body o.src o.dst).1.Options).1, (st11 (get7 o.body o.src o.dst).1.Options).2.1, (st11 (get7 o.body o.src o.dst).1.Options).2.2, false, [], n⟩, (get7 o.body o.src o.dst).2.1.length, 0))
  else if o.proto = 17 then (if (get8 o.body o.src o.dst).2.2 ≠ 0 then (zP, 0, (get8 o.body o.src o.dst).2.2) else if (get8 o.body o.src o.dst).2.1.length + 8 ≠ o.body.length then (zP, 0, 5) else
      (⟨⟨o.proto, o.src, o.dst, (get8 o.body o.src o.dst).1.SPort, (get8 o.body o.src o.dst).1.DPort⟩, 0, false, 0, 0, (qc11 (get8 o.body o.src o.dst).2.1).1, (qc11 (get8 o.body o.src o.dst).2.1).2, n⟩, (get8 o.body o.src o.dst).2.1.length, 0))
  else (zP, 0, 6)
def told11 (s : List UInt8) : api_Packet × Nat × Nat × Int :=
  if 9000 < s.length then (zP, 0, 0, 5) else if s = [] then (zP, 0, 0, 2) else if (open11 s).err ≠ 0 then (zP, 0, 0, (open11 s).err) else
    if (in11 (open11 s) s.length).2.2 ≠ 0 then (zP, 0, 0, (in11 (open11 s) s.length).2.2) else
      ((in11 (open11 s) s.length).1, s.length - (open11 s).body.length, s.length - (in11 (open11 s) s.length).2.1, 0)
theorem get5_A4 (s : List UInt8) : A4 (get5 s).1.Src ∧ A4 (get5 s).1.Dst := by
  have z : A4 ⟨false, 0, 0⟩ := ⟨by simp only []; omega, by simp only []; omega, by simp only []; omega, by simp only []; omega⟩
  have k : ∀ p, A4 (adr4 s p) := fun p => by
    have := vK_rng s p 4 4294967296 (by decide)
    exact ⟨Int.le_refl 0, by show (0 : Int) < 2 ^ 64; decide, this.1, by show vK s p 4 < 2 ^ 64; omega⟩
  unfold get5
  split
  · exact ⟨z, z⟩
  split
  · exact ⟨z, z⟩
  split
  · exact ⟨z, z⟩
  split
  · exact ⟨z, z⟩
  split
  · exact ⟨z, z⟩
  split
  · exact ⟨z, z⟩
  split
  · exact ⟨z, z⟩
  exact ⟨k 12, k 16⟩
theorem get6_A4 (s : List UInt8) : A4 (get6 s).1.Src ∧ A4 (get6 s).1.Dst := by
  have z : A4 ⟨false, 0, 0⟩ := ⟨by simp only []; omega, by simp only []; omega, by simp only []; omega, by simp only []; omega⟩
  have k : ∀ p, A4 (addrG ((s.drop p).take 16)) := fun p => by
    have h1 : valL (((s.drop p).take 16).take 8) < 2 ^ 64 := val_take_lt _ (by decide)
    have h2 : valL (((s.drop p).take 16).drop 8) < 2 ^ 64 := by
      have := val_lt (((s.drop p).take 16).drop 8)
      refine Nat.lt_of_lt_of_le this ?_
      have : (((s.drop p).take 16).drop 8).length ≤ 8 := by simp; omega
      exact Nat.pow_le_pow_right (n := 256) (by decide) this
    unfold addrG
    exact ⟨by simp only []; omega, by simp only []; omega, by simp only []; omega, by simp only []; omega⟩
  unfold get6
  split
  · exact ⟨z, z⟩
  split
  · exact ⟨z, z⟩
  split
  · exact ⟨z, z⟩
  exact ⟨k 8, k 24⟩
theorem open11_A4 (s : List UInt8) : A4 (open11 s).src ∧ A4 (open11 s).dst := by
  have z : A4 ⟨false, 0, 0⟩ := ⟨by simp only []; omega, by simp only []; omega, by simp only []; omega, by simp only []; omega⟩
  unfold open11 zO
  split
  · split
    · exact ⟨z, z⟩
    split
    · exact ⟨z, z⟩
    exact get5_A4 s
  split
  · split
    · exact ⟨z, z⟩
    split
    · exact ⟨z, z⟩
    exact get6_A4 s
  exact ⟨z, z⟩
theorem open11_body {s : List UInt8} (h : (open11 s).err = 0) : (open11 s).body.length + (open11 s).size = s.length := by
  unfold open11 at h ⊢
  by_cases g1 : vK s 0 1 / 16 = 4
  · rw [if_pos g1] at h ⊢
    by_cases g2 : (get5 s).2.2 ≠ 0
    · rw [if_pos g2] at h; exact absurd h g2
    rw [if_neg g2] at h ⊢
    by_cases g3 : s.length ≠ 20 + (get5 s).1.Options.length + (get5 s).2.1.length
    · rw [if_pos g3] at h; exact absurd h (by decide)
    rw [if_neg g3]
    simp only []; omega
  rw [if_neg g1] at h ⊢
  by_cases g4 : vK s 0 1 / 16 = 6
  · rw [if_pos g4] at h ⊢
    by_cases g2 : (get6 s).2.2 ≠ 0
    · rw [if_pos g2] at h; exact absurd h g2
    rw [if_neg g2] at h ⊢
    by_cases g3 : s.length ≠ 40 + (get6 s).2.1.length
    · rw [if_pos g3] at h; exact absurd h (by decide)
    rw [if_neg g3]
    simp only []; omega
  · rw [if_neg g4] at h; exact absurd h (by decide)
theorem told11_zero {s : List UInt8} (h : (told11 s).2.2.2 ≠ 0) : told11 s = (zP, 0, 0, (told11 s).2.2.2) := by
  unfold told11 at h ⊢
  split
  · rfl
  rename_i g1
  rw [if_neg g1] at h
  split
  · rfl
  rename_i g2
  rw [if_neg g2] at h
  split
  · rfl
  rename_i g3
  rw [if_neg g3] at h
  split
  · rfl
  rename_i g4
  rw [if_neg g4] at h
  exact absurd rfl h
def o11 (o : O11) : packet_outer := ⟨o.src, o.dst, o.proto, o.body⟩
theorem opened_eq {s : List UInt8} (hs : s.length < 2 ^ 19) (hn : s ≠ []) : packet_opened s = some (o11 (open11 s), (open11 s).err) := by
  unfold packet_opened packet_openedF
  have h0 : 0 < s.length := List.length_pos_iff.2 hn
  have e0 := vK_one (s := s) (p := 0) h0
  have r0 := vK_rng s 0 1 256 (by decide)
  rw [List.getElem?_eq_getElem h0, Option.bind_some, ← e0, fdivP, show ((2 : Int) ^ 4) = 16 from rfl, g5_eq (by omega), get6_eq (by omega), Option.bind_some, Option.bind_some]
  unfold open11
  by_cases g1 : vK s 0 1 / 16 = 4
  · rw [if_pos g1, show (vK s 0 1 / 16 == 4) = true by simpa using g1, cond_true]
    by_cases g2 : (get5 s).2.2 = 0
    · have hb : (get5 s).1.Options.length ≤ s.length ∧ (get5 s).2.1.length ≤ s.length := by
        unfold get5
        repeat' split
        all_goals simp [zero5]
        omega
      rw [if_neg (by simpa using g2), show ((get5 s).2.2 != 0) = false by simpa using g2, cond_false, wI64 (n := 20 + ((get5 s).1.Options.length : Int)) (by omega) (by omega)]
      simp only []
      rw [wI64 (n := 20 + ((get5 s).1.Options.length : Int) + ((get5 s).2.1.length : Int)) (by omega) (by omega)]
      by_cases g3 : s.length = 20 + (get5 s).1.Options.length + (get5 s).2.1.length
      · rw [if_neg (by simpa using g3), show ((s.length : Int) != 20 + ((get5 s).1.Options.length : Int) + ((get5 s).2.1.length : Int)) = false by simp; omega]; rfl
      · rw [if_pos g3, show ((s.length : Int) != 20 + ((get5 s).1.Options.length : Int) + ((get5 s).2.1.length : Int)) = true by simp; omega]; rfl
    · rw [if_pos g2, show ((get5 s).2.2 != 0) = true by simpa using g2, cond_true]; rfl
  · rw [if_neg g1, show (vK s 0 1 / 16 == 4) = false by simpa using g1, cond_false]
    by_cases g4 : vK s 0 1 / 16 = 6
    · rw [if_pos g4, show (vK s 0 1 / 16 == 6) = true by simpa using g4, cond_true]
      by_cases g2 : (get6 s).2.2 = 0
      · have hb : (get6 s).2.1.length ≤ s.length := by
          unfold get6
          repeat' split
          all_goals simp
          omega
        rw [if_neg (by simpa using g2), show ((get6 s).2.2 != 0) = false by simpa using g2, cond_false, wI64 (n := 40 + ((get6 s).2.1.length : Int)) (by omega) (by omega)]
        by_cases g3 : s.length = 40 + (get6 s).2.1.length
        · rw [if_neg (by simpa using g3), show ((s.length : Int) != 40 + ((get6 s).2.1.length : Int)) = false by simp; omega]; rfl
        · rw [if_pos g3, show ((s.length : Int) != 40 + ((get6 s).2.1.length : Int)) = true by simp; omega]; rfl
      · rw [if_pos g2, show ((get6 s).2.2 != 0) = true by simpa using g2, cond_true]; rfl
    · rw [if_neg g4, show (vK s 0 1 / 16 == 6) = false by simpa using g4, cond_false]; rfl
theorem seg_eq {o : O11} {n : Nat} (h1 : A4 o.src) (h2 : A4 o.dst) (hb : o.body.length < 2 ^ 19) (hp : o.proto = 6) : ∃ q, packet_outer_segment (o11 o) ⟨⟨o.proto, o.src, o.dst, 0, 0⟩, 0, false, 0, 0, false, [], (n : Int)⟩ = some (((in11 o n).2.1 : Int), (in11 o n).2.2, q) ∧ ((in11 o n).2.2 = 0 → q = (in11 o n).1) := by
  unfold packet_outer_segment packet_outer_segmentF in11 o11
  rw [if_pos hp]
  simp only []
  rw [t7get_eq h1 h2 (by omega), Option.bind_some]
  by_cases g : (get7 o.body o.src o.dst).2.2 = 0
  · have ho : (get7 o.body o.src o.dst).1.Options.length < 2 ^ 20 := by
      unfold get7
      repeat' split
      all_goals simp [zero7]
      all_goals omega
    rw [if_neg (by simpa using g), show ((get7 o.body o.src o.dst).2.2 != 0) = false by simpa using g, cond_false, t7st_eq ho, Option.bind_some]
    unfold st11
    by_cases g2 : 0 ≤ (stamp7 (get7 o.body o.src o.dst).1.Options).2.2
    · rw [if_pos g2, cond_p (by omega)]
      exact ⟨_, rfl, fun _ => rfl⟩
    · rw [if_neg g2, cond_n (by omega)]
      exact ⟨_, rfl, fun _ => rfl⟩
  · rw [if_pos g, show ((get7 o.body o.src o.dst).2.2 != 0) = true by simpa using g, cond_true]
    exact ⟨_, rfl, fun h => absurd h g⟩
theorem dat_eq {o : O11} {n : Nat} (h1 : A4 o.src) (h2 : A4 o.dst) (hb : o.body.length < 2 ^ 19) (hp : o.proto = 17) : ∃ q, packet_outer_datagram (o11 o) ⟨⟨o.proto, o.src, o.dst, 0, 0⟩, 0, false, 0, 0, false, [], (n : Int)⟩ = some (((in11 o n).2.1 : Int), (in11 o n).2.2, q) ∧ ((in11 o n).2.2 = 0 → q = (in11 o n).1) := by
  unfold packet_outer_datagram packet_outer_datagramF in11 o11
  rw [if_neg (by omega), if_pos hp]
  simp only []
  rw [uget_eq h1 h2 (by omega), Option.bind_some]
  by_cases g : (get8 o.body o.src o.dst).2.2 = 0
  · have ho : (get8 o.body o.src o.dst).2.1.length < 2 ^ 20 := by
      unfold get8
      repeat' split
      all_goals simp
      all_goals omega
    rw [if_neg (by simpa using g), show ((get8 o.body o.src o.dst).2.2 != 0) = false by simpa using g, cond_false, wI64 (n := (o.body.length : Int) - 8) (by omega) (by omega)]
    by_cases g2 : (get8 o.body o.src o.dst).2.1.length + 8 = o.body.length
    · rw [if_neg (by simpa using g2), show (((get8 o.body o.src o.dst).2.1.length : Int) != (o.body.length : Int) - 8) = false by simp; omega, cond_false, qgetQ_eq (by omega), Option.bind_some]
      unfold qc11
      by_cases g3 : (getQ (get8 o.body o.src o.dst).2.1).2 = 0
      · rw [if_pos g3, show ((getQ (get8 o.body o.src o.dst).2.1).2 == 0) = true by simpa using g3, cond_true]
        exact ⟨_, rfl, fun _ => rfl⟩
      · rw [if_neg g3, show ((getQ (get8 o.body o.src o.dst).2.1).2 == 0) = false by simpa using g3, cond_false]
        exact ⟨_, rfl, fun _ => rfl⟩
    · rw [if_pos g2, show (((get8 o.body o.src o.dst).2.1.length : Int) != (o.body.length : Int) - 8) = true by simp; omega, cond_true]
      exact ⟨_, rfl, fun h => absurd h (by decide)⟩
  · rw [if_pos g, show ((get8 o.body o.src o.dst).2.2 != 0) = true by simpa using g, cond_true]
    exact ⟨_, rfl, fun h => absurd h g⟩
def told11L (s : List UInt8) : api_Packet × Int × Int × Int :=
  if (told11 s).2.2.2 ≠ 0 then (zP, 0, 0, (told11 s).2.2.2) else ((told11 s).1, ((s.length - (told11 s).2.1 : Nat) : Int), ((s.length - (told11 s).2.2.1 : Nat) : Int), 0)
theorem in11_len {o : O11} {n : Nat} : (in11 o n).2.1 ≤ o.body.length := by
  unfold in11
  split
  · split
    · simp
    · show (get7 o.body o.src o.dst).2.1.length ≤ _
      unfold get7
      repeat' split
      all_goals simp
  split
  · split
    · simp
    split
    · simp
    · show (get8 o.body o.src o.dst).2.1.length ≤ _
      unfold get8
      repeat' split
      all_goals simp
      all_goals omega
  · simp
theorem ptold_eq {s : List UInt8} (hs : s.length < 2 ^ 19) : packet_told s = some (told11L s) := by
  unfold packet_told packet_toldF
  have hz : (⟨⟨0, ⟨false, 0, 0⟩, ⟨false, 0, 0⟩, 0, 0⟩, 0, false, 0, 0, false, [], 0⟩ : api_Packet) = zP := rfl
  rw [hz]
  by_cases g1 : 9000 < s.length
  · have hT : told11 s = (zP, 0, 0, 5) := by unfold told11; rw [if_pos g1]
    unfold told11L
    rw [cond_p (by omega), hT]; rfl
  rw [cond_n (by omega)]
  by_cases g2 : s = []
  · subst g2; rfl
  rw [show (s == []) = false by simpa using g2, cond_false, opened_eq hs g2, Option.bind_some]
  obtain ⟨a1, a2⟩ := open11_A4 s
  by_cases g3 : (open11 s).err = 0
  · have hb := open11_body g3
    have hil := in11_len (o := open11 s) (n := s.length)
    have hE : (in11 (open11 s) s.length).2.2 ≠ 0 → told11L s = (zP, 0, 0, (in11 (open11 s) s.length).2.2) := fun g4 => by
      have hT : told11 s = (zP, 0, 0, (in11 (open11 s) s.length).2.2) := by unfold told11; rw [if_neg g1, if_neg g2, if_neg (by simpa using g3), if_pos g4]
      unfold told11L
      rw [hT, if_pos g4]
    have hO : (in11 (open11 s) s.length).2.2 = 0 → told11L s = ((in11 (open11 s) s.length).1, ((open11 s).body.length : Int), ((in11 (open11 s) s.length).2.1 : Int), 0) := fun g4 => by
      have hT : told11 s = ((in11 (open11 s) s.length).1, s.length - (open11 s).body.length, s.length - (in11 (open11 s) s.length).2.1, 0) := by unfold told11; rw [if_neg g1, if_neg g2, if_neg (by simpa using g3), if_neg (by simpa using g4)]
      unfold told11L
      rw [hT, if_neg (by simp)]
      simp only []
      rw [show s.length - (s.length - (open11 s).body.length) = (open11 s).body.length by omega, show s.length - (s.length - (in11 (open11 s) s.length).2.1) = (in11 (open11 s) s.length).2.1 by omega]
    simp only [g3, bne_self_eq_false, cond_false]
    by_cases p6 : (open11 s).proto = 6
    · obtain ⟨q, q1, q2⟩ := seg_eq (o := open11 s) (n := s.length) a1 a2 (by omega) p6
      have e6 : ((o11 (open11 s)).proto == 6) = true := by show ((open11 s).proto == 6) = true; simpa using p6
      rw [e6, cond_true]
      show (packet_outer_segment (o11 (open11 s)) ⟨⟨(open11 s).proto, (open11 s).src, (open11 s).dst, 0, 0⟩, 0, false, 0, 0, false, [], (s.length : Int)⟩).bind _ = _
      rw [q1, Option.bind_some]
      simp only []
      by_cases g4 : (in11 (open11 s) s.length).2.2 = 0
      · rw [hO g4, g4, q2 g4]; rfl
      · rw [hE g4, show ((in11 (open11 s) s.length).2.2 != 0) = true by simpa using g4]; rfl
    · have e6 : ((o11 (open11 s)).proto == 6) = false := by show ((open11 s).proto == 6) = false; simpa using p6
      rw [e6, cond_false]
      by_cases p17 : (open11 s).proto = 17
      · obtain ⟨q, q1, q2⟩ := dat_eq (o := open11 s) (n := s.length) a1 a2 (by omega) p17
        have e17 : ((o11 (open11 s)).proto == 17) = true := by show ((open11 s).proto == 17) = true; simpa using p17
        rw [e17, cond_true]
        show (packet_outer_datagram (o11 (open11 s)) ⟨⟨(open11 s).proto, (open11 s).src, (open11 s).dst, 0, 0⟩, 0, false, 0, 0, false, [], (s.length : Int)⟩).bind _ = _
        rw [q1, Option.bind_some]
        simp only []
        by_cases g4 : (in11 (open11 s) s.length).2.2 = 0
        · rw [hO g4, g4, q2 g4]; rfl
        · rw [hE g4, show ((in11 (open11 s) s.length).2.2 != 0) = true by simpa using g4]; rfl
      · have e17 : ((o11 (open11 s)).proto == 17) = false := by show ((open11 s).proto == 17) = false; simpa using p17
        have e6' : (in11 (open11 s) s.length).2.2 = 6 := by unfold in11; rw [if_neg p6, if_neg p17]
        rw [e17, cond_false, hE (by rw [e6']; decide), e6']
  · have hT : told11 s = (zP, 0, 0, (open11 s).err) := by unfold told11; rw [if_neg g1, if_neg g2, if_pos g3]
    unfold told11L
    rw [hT, if_pos g3, show ((open11 s).err != 0) = true by simpa using g3]; rfl
theorem parse_eq {s : List UInt8} (hs : s.length < 2 ^ 19) : packet_Parse s = some ((told11 s).1, (told11 s).2.2.2) := by
  unfold packet_Parse packet_ParseF
  rw [ptold_eq hs, Option.bind_some]
  unfold told11L
  by_cases g : (told11 s).2.2.2 = 0
  · rw [if_neg (by simpa using g), g]
  · rw [if_pos g, told11_zero g]
theorem get_put {h : ipfour_Head} {l more : List UInt8} (hh : H5 h = true) (h1 : A4 h.Src) (h2 : A4 h.Dst) (hl : 20 + h.Options.length + l.length ≤ 65535) : get5 (hc5 h (20 + h.Options.length + l.length) (ck5 h (20 + h.Options.length + l.length)) ++ (l ++ more)) = (h, l, 0) := by
  obtain ⟨q1, q2, q3, q4, q5, q6, q7, q8⟩ := H5_inv hh
  generalize hn : 20 + h.Options.length + l.length = n at *
  obtain ⟨c1, c2, c3⟩ := ck5_ok h n
  generalize ck5 h n = c at *
  have hlen := hc5_len h n c
  obtain ⟨p0, p1, p2, p4, p6, p8, p9, p12, p16, p20, _, _⟩ := hc5_parts h n c (l ++ more)
  have s5 := q5.2
  have d5 := q6.2
  unfold aok at s5 d5
  rw [q5.1] at s5
  rw [q6.1] at d5
  simp only [Bool.false_or, Bool.and_eq_true, beq_iff_eq, decide_eq_true_eq] at s5 d5
  obtain ⟨_, _, h1c, _⟩ := h1
  obtain ⟨_, _, h2c, _⟩ := h2
  have v0 := vK_of p0 rfl (by omega)
  have v1 := vK_of p1 rfl (by omega)
  have v2 := vK_of p2 rfl (by omega)
  have v4 := vK_of p4 rfl (by omega)
  have v6 := vK_of p6 (wflag h.Whole) (by cases h.Whole <;> decide)
  have v8 := vK_of p8 rfl (by omega)
  have v9 := vK_of p9 rfl (by omega)
  have v12 := vK_of p12 rfl (by omega)
  have v16 := vK_of p16 rfl (by omega)
  have ht : (((64 + (20 + h.Options.length) / 4 : Nat) : Int) % 16 * 4) = ((20 + h.Options.length : Nat) : Int) := by omega
  unfold get5 adr4
  rw [v0, v1, v2, v4, v6, v8, v9, v12, v16, ht, Int.toNat_natCast, Int.toNat_natCast, p20]
  rw [if_neg (by simp only [List.length_append]; omega), if_neg (by omega), if_neg (by omega), if_neg (by omega), if_neg (by simp only [List.length_append]; omega), show (hc5 h n c ++ (l ++ more)).take (20 + h.Options.length) = hc5 h n c by rw [← hlen]; exact List.take_left, norm_zero_mod c2 c3, if_neg (by decide), if_neg (by cases h.Whole <;> simp)]
  rw [show 20 + h.Options.length - 20 = h.Options.length by omega, List.take_left, show (hc5 h n c ++ (l ++ more)).drop (20 + h.Options.length) = l ++ more by rw [← hlen]; exact List.drop_left, show n - (20 + h.Options.length) = l.length by omega, List.take_left]
  obtain ⟨cl, mk, wh, tt, pr, ⟨sv, sh, sl⟩, ⟨dv, dh, dl⟩, op⟩ := h
  simp only at q1 q2 q3 q4 q5 q6 s5 d5 h1c h2c ⊢
  obtain ⟨rfl, _⟩ := s5
  obtain ⟨rfl, _⟩ := d5
  rw [q5.1, q6.1, Int.toNat_of_nonneg q1.1, Int.toNat_of_nonneg q2.1, Int.toNat_of_nonneg q3.1, Int.toNat_of_nonneg q4.1, Int.toNat_of_nonneg h1c, Int.toNat_of_nonneg h2c]
  cases wh <;> rfl
theorem get6_head {h : ipsix_Head} {n : Nat} {r : List UInt8} (hh : H6 h) (hs : AddrOK h.Src) (hd : AddrOK h.Dst) (hn : n ≤ 65535) : get6 (headB h n ++ r) = if r.length < n then (zero6, [], 2) else (h, r.take n, 0) := by
  obtain ⟨a, b, c, d, e, f⟩ := hh
  have hl := headB_len h n
  obtain ⟨p1, p2, p3, p4, p5, p6, p7⟩ := parts6 (a := be (6 * 2 ^ 28 + h.Class.toNat * 2 ^ 20 + h.Label.toNat) 4) (b := be n 2) (c := be h.Next.toNat 1) (d := be h.Hop.toNat 1) (e := addrB h.Src) (f := addrB h.Dst) (r := r) (by simp) (by simp) (by simp) (by simp) (by simp [addrB]) (by simp [addrB])
  have hv : valL ((headB h n ++ r).take 4) = 6 * 2 ^ 28 + h.Class.toNat * 2 ^ 20 + h.Label.toNat := by
    unfold headB; rw [p1, val_be_lt (by omega)]
  have hw : valL (((headB h n ++ r).drop 4).take 2) = n := by unfold headB; rw [p2, val_be_lt (by omega)]
  unfold get6
  rw [if_neg (by simp; omega), hv, if_neg (by omega), hw]
  have hlen : (headB h n ++ r).length - 40 = r.length := by simp; omega
  rw [hlen]
  by_cases hr : r.length < n
  · rw [if_pos hr, if_pos hr]
  rw [if_neg hr, if_neg hr]
  have e40 : (headB h n ++ r).drop 40 = r := p7
  rw [e40]
  unfold head6
  rw [hv]
  unfold headB
  rw [p3, p4, p5, p6, addrG_addrB hs e, addrG_addrB hd f, val_be_lt (by omega), val_be_lt (by omega)]
  have e1 : (((6 * 2 ^ 28 + h.Class.toNat * 2 ^ 20 + h.Label.toNat) / 2 ^ 20 % 256 : Nat) : Int) = h.Class := by omega
  have e2 : (((6 * 2 ^ 28 + h.Class.toNat * 2 ^ 20 + h.Label.toNat) % 2 ^ 20 : Nat) : Int) = h.Label := by omega
  simp only []
  rw [e1, e2, Int.toNat_of_nonneg c.1, Int.toNat_of_nonneg d.1]
theorem len2 {l : List UInt8} (h : l.length = 2) : ∃ a b, l = [a, b] := by
  match l, h with
  | [a, b], _ => exact ⟨a, b, rfl⟩
theorem parts8 {a b c d r : List UInt8} (ha : a.length = 2) (hb : b.length = 2) (hc : c.length = 2) (hd : d.length = 2) :
    let s := a ++ b ++ c ++ d ++ r
    (s.drop 0).take 2 = a ∧ (s.drop 2).take 2 = b ∧ (s.drop 4).take 2 = c ∧ (s.drop 6).take 2 = d ∧ s.drop 8 = r ∧ s.take 6 = a ++ b ++ c := by
  obtain ⟨a1, a2, rfl⟩ := len2 ha
  obtain ⟨b1, b2, rfl⟩ := len2 hb
  obtain ⟨c1, c2, rfl⟩ := len2 hc
  obtain ⟨d1, d2, rfl⟩ := len2 hd
  exact ⟨rfl, rfl, rfl, rfl, rfl, rfl⟩
def dg (h : udp_Head) (l : List UInt8) (c : Nat) : List UInt8 := be h.SPort.toNat 2 ++ be h.DPort.toNat 2 ++ be (8 + l.length) 2 ++ be c 2 ++ l
theorem dg_len (h : udp_Head) (l : List UInt8) (c : Nat) : (dg h l c).length = 8 + l.length := by simp [dg]; omega
theorem u8_dg (h : udp_Head) (l : List UInt8) : u8 h l = dg h l 0 := by
  unfold u8 dg
  rw [putS_two, putS_two, putS_two]
  rfl
theorem set_dg {h : udp_Head} {l : List UInt8} {c : Int} : setS (u8 h l) 6 2 c = dg h l c.toNat := by
  rw [u8_dg]
  obtain ⟨_, _, _, _, p5, p6⟩ := parts8 (a := be h.SPort.toNat 2) (b := be h.DPort.toNat 2) (c := be (8 + l.length) 2) (d := be 0 2) (r := l) (by simp) (by simp) (by simp) (by simp)
  have e : dg h l 0 = be h.SPort.toNat 2 ++ be h.DPort.toNat 2 ++ be (8 + l.length) 2 ++ be 0 2 ++ l := rfl
  rw [← e] at p5 p6
  unfold setS
  rw [if_pos (by rw [dg_len]; omega), show (6 : Int).toNat = 6 from rfl, show ((6 : Int) + 2).toNat = 8 from rfl, p5, p6]; rfl
theorem dg_sum {h : udp_Head} {l : List UInt8} {c : Nat} (hc : c < 65536) : wsum (dg h l c) = wsum (dg h l 0) + c := by
  have e : ∀ x, dg h l x = (be h.SPort.toNat 2 ++ be h.DPort.toNat 2 ++ be (8 + l.length) 2) ++ (be x 2 ++ l) := fun x => by simp [dg, List.append_assoc]
  have hA : (be h.SPort.toNat 2 ++ be h.DPort.toNat 2 ++ be (8 + l.length) 2).length % 2 = 0 := by simp
  rw [e c, e 0]
  generalize be h.SPort.toNat 2 ++ be h.DPort.toNat 2 ++ be (8 + l.length) 2 = A at hA
  rw [wsum_append _ _ hA, wsum_append _ _ hA, wsum_append (be c 2) l (by simp), wsum_append (be 0 2) l (by simp), wsum_be2 hc, wsum_be2 (by omega)]; omega
theorem v2_of {s w : List UInt8} {p n : Nat} (h : (s.drop p).take 2 = w) (e : w = be n 2) (hn : n < 65536) : v2 s p = (n : Int) := by
  unfold v2; rw [h, e, val_be_lt (by omega)]
theorem dg_ok {h : udp_Head} {l : List UInt8} {p : List UInt8} (hp : p.length % 2 = 0) : let c := ck8 p (u8 h l); 1 ≤ c ∧ c ≤ 65535 ∧ wsum (p ++ dg h l c.toNat) % 65535 = 0 ∧ wsum (p ++ dg h l c.toNat) ≠ 0 := by
  have key : ∀ c : Nat, c < 65536 → wsum (p ++ dg h l c) = wsum p + wsum (dg h l 0) + c := fun c hc => by rw [wsum_append _ _ hp, dg_sum hc]; omega
  have k0 := key 0 (by omega)
  simp only []
  unfold ck8
  rw [u8_dg, k0]
  generalize wsum p + wsum (dg h l 0) + 0 = W at *
  have n1 := norm_le W
  have n2 := norm_mod W
  have n3 := norm_zero W
  split
  · rw [key _ (by omega)]; omega
  · rw [key _ (by omega)]; omega
theorem put8_ok {h : udp_Head} {src dst : api_Addr} {l : List UInt8} (h0 : (put8 h src dst l).2 = 0) : (0 ≤ h.SPort ∧ h.SPort ≤ 65535) ∧ (0 ≤ h.DPort ∧ h.DPort ≤ 65535) ∧ pseu src dst 17 (8 + l.length) ≠ [] ∧ 8 + l.length ≤ 65535 ∧ put8 h src dst l = (dg h l (ck8 (pseu src dst 17 (8 + l.length)) (u8 h l)).toNat, 0) := by
  unfold put8 at h0 ⊢
  by_cases hh : (port h.SPort && port h.DPort) = false
  · rw [if_pos hh] at h0; exact absurd h0 (by decide)
  rw [if_neg hh] at h0 ⊢
  by_cases hp : pseu src dst 17 (8 + l.length) = []
  · rw [if_pos hp] at h0; exact absurd h0 (by decide)
  rw [if_neg hp] at h0 ⊢
  by_cases hl : 65535 < 8 + l.length
  · rw [if_pos hl] at h0; exact absurd h0 (by decide)
  rw [if_neg hl]
  have hport : port h.SPort = true ∧ port h.DPort = true := by simpa using hh
  refine ⟨port_iff.1 hport.1, port_iff.1 hport.2, hp, by omega, ?_⟩
  rw [set_dg]
theorem get_put8 {h : udp_Head} {src dst : api_Addr} {l : List UInt8} (h0 : (put8 h src dst l).2 = 0) : get8 (put8 h src dst l).1 src dst = (h, l, 0) := by
  obtain ⟨p1, p2, g2, g3, e⟩ := put8_ok h0
  rw [e]
  simp only []
  have q1 := pseu_even src dst 17 (8 + (l.length : Int))
  obtain ⟨c1, c2, c3, c4⟩ := dg_ok (h := h) (l := l) q1
  generalize hp : pseu src dst 17 (8 + (l.length : Int)) = p at *
  generalize ck8 p (u8 h l) = c at *
  obtain ⟨c, rfl⟩ := Int.eq_ofNat_of_zero_le (show 0 ≤ c by omega)
  rw [Int.toNat_natCast] at *
  have hlen := dg_len h l c
  obtain ⟨s0, s2, s4, s6, s8, _⟩ := parts8 (a := be h.SPort.toNat 2) (b := be h.DPort.toNat 2) (c := be (8 + l.length) 2) (d := be c 2) (r := l) (by simp) (by simp) (by simp) (by simp)
  have ed2 : be h.SPort.toNat 2 ++ be h.DPort.toNat 2 ++ be (8 + l.length) 2 ++ be c 2 ++ l = dg h l c := rfl
  rw [ed2] at s0 s2 s4 s6 s8
  have v0 := v2_of s0 rfl (by omega)
  have v2' := v2_of s2 rfl (by omega)
  have v4 := v2_of s4 rfl (by omega)
  have v6 := v2_of s6 rfl (by omega)
  unfold get8
  rw [if_neg (by omega), v0, v2', v4, v6, if_neg (by omega), if_neg (by omega), show (((8 + l.length : Nat) : Int)) = 8 + (l.length : Int) by omega, hp, if_neg g2, if_neg (by omega), show (8 + (l.length : Int)).toNat = (dg h l c).length by omega, List.take_length, norm_zero_mod c3 c4, if_neg (by decide), s8, hlen, show 8 + l.length - 8 = l.length by omega, List.take_length]
  obtain ⟨a, b⟩ := h
  simp only at p1 p2 ⊢
  rw [Int.toNat_of_nonneg p1.1, Int.toNat_of_nonneg p2.1]
theorem parts7 {a b n m f g t c u r : List UInt8} (ha : a.length = 2) (hb : b.length = 2) (hn : n.length = 4) (hm : m.length = 4) (hf : f.length = 1) (hg : g.length = 1) (ht : t.length = 2) (hc : c.length = 2) (hu : u.length = 2) :
    let s := a ++ b ++ n ++ m ++ f ++ g ++ t ++ (c ++ (u ++ r))
    (s.drop 0).take 2 = a ∧ (s.drop 2).take 2 = b ∧ (s.drop 4).take 4 = n ∧ (s.drop 8).take 4 = m ∧ (s.drop 12).take 1 = f ∧ (s.drop 13).take 1 = g ∧ (s.drop 14).take 2 = t ∧ (s.drop 16).take 2 = c ∧ (s.drop 18).take 2 = u ∧ s.drop 20 = r := by
  obtain ⟨a1, a2, rfl⟩ := l2 ha
  obtain ⟨b1, b2, rfl⟩ := l2 hb
  obtain ⟨n1, n2, n3, n4, rfl⟩ := l4 hn
  obtain ⟨m1, m2, m3, m4, rfl⟩ := l4 hm
  obtain ⟨f1, rfl⟩ := l1 hf
  obtain ⟨g1, rfl⟩ := l1 hg
  obtain ⟨t1, t2, rfl⟩ := l2 ht
  obtain ⟨c1, c2, rfl⟩ := l2 hc
  obtain ⟨u1, u2, rfl⟩ := l2 hu
  exact ⟨rfl, rfl, rfl, rfl, rfl, rfl, rfl, rfl, rfl, rfl⟩
theorem hc7_parts (h : tcp_Head) (c : Nat) (r : List UInt8) : let s := hc7 h c ++ r
    (s.drop 0).take 2 = be h.SPort.toNat 2 ∧ (s.drop 2).take 2 = be h.DPort.toNat 2 ∧ (s.drop 4).take 4 = be h.Seq.toNat 4 ∧ (s.drop 8).take 4 = be h.Ack.toNat 4 ∧ (s.drop 12).take 1 = be (4 * (20 + h.Options.length)) 1 ∧ (s.drop 13).take 1 = be h.Flags.toNat 1 ∧ (s.drop 14).take 2 = be h.Window.toNat 2 ∧ (s.drop 16).take 2 = be c 2 ∧ (s.drop 18).take 2 = be h.Urgent.toNat 2 ∧ s.drop 20 = h.Options ++ r := by
  rw [hc7_app]
  unfold ha7
  exact parts7 (be_len _ _) (be_len _ _) (be_len _ _) (be_len _ _) (be_len _ _) (be_len _ _) (be_len _ _) (be_len _ _) (be_len _ _)
theorem get_put7 {h : tcp_Head} {src dst : api_Addr} {l : List UInt8} (hh : H7 h = true) (hw : W7 h) (ho : (opt7 h.Options).2 = 0) (hp : pseu src dst 6 (20 + h.Options.length + l.length) ≠ []) : get7 (hc7 h (ck7 (pseu src dst 6 (20 + h.Options.length + l.length)) h l) ++ l) src dst = (h, l, 0) := by
  obtain ⟨q1, q2, q3, q4, q5, q6, q7⟩ := H7_inv hh
  obtain ⟨w1, w2⟩ := hw
  have pe := pseu_even src dst 6 (20 + h.Options.length + l.length)
  generalize hpp : pseu src dst 6 (20 + h.Options.length + l.length) = p at *
  obtain ⟨c1, c2, c3⟩ := ck7_ok pe h l
  generalize ck7 p h l = c at *
  have hlen := hc7_len h c
  obtain ⟨p0, p2, p4, p8, p12, p13, p14, p16, p18, p20⟩ := hc7_parts h c l
  have v0 := vK_of p0 rfl (by omega)
  have v2 := vK_of p2 rfl (by omega)
  have v4 := vK_of p4 rfl (by omega)
  have v8 := vK_of p8 rfl (by omega)
  have v12 := vK_of p12 rfl (by omega)
  have v13 := vK_of p13 rfl (by omega)
  have v14 := vK_of p14 rfl (by omega)
  have v18 := vK_of p18 rfl (by omega)
  have ht : (4 * (((4 * (20 + h.Options.length) : Nat) : Int) / 16)) = ((20 + h.Options.length : Nat) : Int) := by omega
  unfold get7
  have hl : (((hc7 h c ++ l).length : Nat) : Int) = 20 + h.Options.length + l.length := by rw [List.length_append, hlen]; omega
  rw [v0, v2, v4, v8, v12, v13, v14, v18, ht, Int.toNat_natCast, p20, hl, hpp]
  have hdr : (hc7 h c ++ l).drop (20 + h.Options.length) = l := by rw [← hlen]; exact List.drop_left
  rw [if_neg (by simp only [List.length_append]; omega), if_neg (by omega), if_neg (by omega), if_neg (by omega), if_neg hp, norm_zero_mod c2 c3, if_neg (by decide), show 20 + h.Options.length - 20 = h.Options.length by omega, List.take_left, if_neg (by simpa using ho), hdr]
  obtain ⟨sp, dp, sq, ak, fl, wi, ur, op⟩ := h
  simp only at q1 q2 q3 q4 q5 w1 w2 ⊢
  rw [Int.toNat_of_nonneg q1.1, Int.toNat_of_nonneg q2.1, Int.toNat_of_nonneg q3.1, Int.toNat_of_nonneg q4.1, Int.toNat_of_nonneg q5.1, Int.toNat_of_nonneg w1.1, Int.toNat_of_nonneg w2.1]
theorem first6 (t : api_Tuple) (n : Nat) (r : List UInt8) : vK (headB (h6of t) n ++ r) 0 1 = 96 := by
  obtain ⟨p1, _⟩ := parts6 (a := be (6 * 2 ^ 28 + (h6of t).Class.toNat * 2 ^ 20 + (h6of t).Label.toNat) 4) (b := be n 2) (c := be (h6of t).Next.toNat 1) (d := be (h6of t).Hop.toNat 1) (e := addrB (h6of t).Src) (f := addrB (h6of t).Dst) (r := r) (by simp) (by simp) (by simp) (by simp) (by simp [addrB]) (by simp [addrB])
  have e : be (6 * 2 ^ 28 + (h6of t).Class.toNat * 2 ^ 20 + (h6of t).Label.toNat) 4 ++ be n 2 ++ be (h6of t).Next.toNat 1 ++ be (h6of t).Hop.toNat 1 ++ addrB (h6of t).Src ++ addrB (h6of t).Dst ++ r = headB (h6of t) n ++ r := rfl
  rw [e] at p1
  unfold vK
  have : ((headB (h6of t) n ++ r).drop 0).take 1 = ((headB (h6of t) n ++ r).take 4).take 1 := by rw [List.drop_zero, List.take_take]; rfl
  rw [this, p1, show (h6of t).Class.toNat = 0 from rfl, show (h6of t).Label.toNat = 0 from rfl]; rfl
theorem first5 (t : api_Tuple) (n c : Nat) (r : List UInt8) : vK (hc5 (h5of t) n c ++ r) 0 1 = 69 := by
  obtain ⟨p0, _⟩ := hc5_parts (h5of t) n c r
  have w0 := vK_of p0 rfl (by rw [show (h5of t).Options = [] from rfl]; decide)
  rw [show (h5of t).Options.length = 0 from rfl] at w0
  rw [show ((64 + (20 + 0) / 4 : Nat) : Int) = 69 from rfl] at w0
  exact w0
theorem open_v6 {t : api_Tuple} {b more : List UInt8} (h1 : A4 t.Src) (h2 : A4 t.Dst) (hh : H6 (h6of t)) (hb : b.length ≤ 65535) : open11 (headB (h6of t) b.length ++ (b ++ more)) = if more = [] then ⟨t.Src, t.Dst, t.Proto, 40, b, 0⟩ else zO 5 := by
  have hg := get6_head (h := h6of t) (n := b.length) (r := b ++ more) hh h1.addrOK h2.addrOK hb
  rw [if_neg (by simp), List.take_left] at hg
  unfold open11
  rw [first6, if_neg (by decide), if_pos (by decide), hg, if_neg (by simp)]
  simp only [List.length_append, headB_len]
  by_cases hm : more = []
  · subst hm
    rw [if_neg (by simp), if_pos rfl]; rfl
  · have : 0 < more.length := List.length_pos_iff.2 hm
    rw [if_pos (by omega), if_neg hm]
theorem open_v4 {t : api_Tuple} {b more : List UInt8} (h1 : A4 t.Src) (h2 : A4 t.Dst) (hh : H5 (h5of t) = true) (hb : 20 + b.length ≤ 65535) : open11 (hc5 (h5of t) (20 + b.length) (ck5 (h5of t) (20 + b.length)) ++ (b ++ more)) = if more = [] then ⟨t.Src, t.Dst, t.Proto, 20, b, 0⟩ else zO 5 := by
  have ho : (h5of t).Options.length = 0 := rfl
  have hg := get_put (h := h5of t) (l := b) (more := more) hh h1 h2 (by omega)
  have hl := hc5_len (h5of t) (20 + b.length) (ck5 (h5of t) (20 + b.length))
  rw [ho, Nat.add_zero] at hg hl
  unfold open11
  rw [first5, if_pos (by decide), hg, if_neg (by simp)]
  simp only [List.length_append, hl, ho]
  by_cases hm : more = []
  · subst hm
    rw [if_neg (by simp), if_pos rfl]; rfl
  · have : 0 < more.length := List.length_pos_iff.2 hm
    rw [if_pos (by omega), if_neg hm]
theorem open_made {t : api_Tuple} {b more : List UInt8} (h1 : A4 t.Src) (h2 : A4 t.Dst) (h0 : (put11 t b).2 = 0) : open11 ((put11 t b).1 ++ more) = if more = [] then ⟨t.Src, t.Dst, t.Proto, cond t.Src.V6 40 20, b, 0⟩ else zO 5 := by
  obtain ⟨_, _, _, _, _, h⟩ := put11_ok h0
  rcases h with ⟨v, hh, hl, e⟩ | ⟨v, hh, hl, e⟩
  · rw [e, v]
    simp only [List.append_assoc]
    exact open_v6 h1 h2 hh hl
  · rw [e, v]
    simp only [List.append_assoc]
    exact open_v4 h1 h2 hh hl
theorem made_len {t : api_Tuple} {b : List UInt8} (h0 : (put11 t b).2 = 0) : (put11 t b).1.length = cond t.Src.V6 40 20 + b.length ∧ (put11 t b).1.length ≤ 9000 := by
  obtain ⟨_, _, _, _, h9, h⟩ := put11_ok h0
  refine ⟨?_, h9⟩
  rcases h with ⟨v, hh, hl, e⟩ | ⟨v, hh, hl, e⟩
  · rw [e, v]
    simp only [List.length_append, headB_len, cond_true]
  · have hl := hc5_len (h5of t) (20 + b.length) (ck5 (h5of t) (20 + b.length))
    rw [show (h5of t).Options.length = 0 from rfl] at hl
    rw [e, v]
    simp only [List.length_append, hl, cond_false]
theorem told_made {t : api_Tuple} {b : List UInt8} (h1 : A4 t.Src) (h2 : A4 t.Dst) (h0 : (put11 t b).2 = 0) : told11 (put11 t b).1 = if (in11 ⟨t.Src, t.Dst, t.Proto, cond t.Src.V6 40 20, b, 0⟩ (put11 t b).1.length).2.2 ≠ 0 then (zP, 0, 0, (in11 ⟨t.Src, t.Dst, t.Proto, cond t.Src.V6 40 20, b, 0⟩ (put11 t b).1.length).2.2) else
    ((in11 ⟨t.Src, t.Dst, t.Proto, cond t.Src.V6 40 20, b, 0⟩ (put11 t b).1.length).1, cond t.Src.V6 40 20, (put11 t b).1.length - (in11 ⟨t.Src, t.Dst, t.Proto, cond t.Src.V6 40 20, b, 0⟩ (put11 t b).1.length).2.1, 0) := by
  have ho := open_made (more := []) h1 h2 h0
  rw [List.append_nil, if_pos rfl] at ho
  obtain ⟨hl, h9⟩ := made_len h0
  unfold told11
  have hne : (put11 t b).1 ≠ [] := by
    intro e
    rw [e] at hl
    cases hv : t.Src.V6 <;> rw [hv] at hl <;> simp at hl <;> omega
  rw [if_neg (by omega), if_neg hne, ho, if_neg (by simp)]
  simp only []
  rw [show (put11 t b).1.length - b.length = cond t.Src.V6 40 20 by omega]
theorem told_more {t : api_Tuple} {b more : List UInt8} (h1 : A4 t.Src) (h2 : A4 t.Dst) (h0 : (put11 t b).2 = 0) (hm : more ≠ []) : (told11 ((put11 t b).1 ++ more)).2.2.2 = 5 := by
  have ho := open_made (more := more) h1 h2 h0
  rw [if_neg hm] at ho
  unfold told11
  by_cases g : 9000 < ((put11 t b).1 ++ more).length
  · rw [if_pos g]
  rw [if_neg g, if_neg (by simp [hm]), ho, if_pos (by decide)]; rfl
theorem told_less {t : api_Tuple} {b : List UInt8} (h1 : A4 t.Src) (h2 : A4 t.Dst) (h0 : (put11 t b).2 = 0) {n : Nat} (hn : n < (put11 t b).1.length) : (told11 ((put11 t b).1.take n)).2.2.2 = 2 := by
  obtain ⟨hl, h9⟩ := made_len h0
  have hlen : ((put11 t b).1.take n).length = n := by rw [List.length_take]; omega
  unfold told11
  rw [if_neg (by omega)]
  by_cases hz : (put11 t b).1.take n = []
  · rw [if_pos hz]
  rw [if_neg hz]
  have hn1 : 1 ≤ n := by
    rcases Nat.eq_zero_or_pos n with h | h
    · subst h; simp at hz
    · exact h
  have key : (open11 ((put11 t b).1.take n)).err = 2 := by
    obtain ⟨_, _, _, _, _, h⟩ := put11_ok h0
    rcases h with ⟨v, hh, hb, e⟩ | ⟨v, hh, hb, e⟩
    · rw [v, cond_true] at hl
      have f0 : vK ((put11 t b).1.take n) 0 1 = 96 := by rw [vK_take (by omega), e]; exact first6 t _ _
      unfold open11
      rw [f0, if_neg (by decide), if_pos (by decide)]
      have hg : (get6 ((put11 t b).1.take n)).2.2 = 2 := by
        by_cases h40 : n < 40
        · unfold get6; rw [if_pos (by omega)]
        · have et : (put11 t b).1.take n = headB (h6of t) b.length ++ b.take (n - 40) := by
            rw [e]
            simp only []
            rw [List.take_append, headB_len, List.take_of_length_le (by rw [headB_len]; omega)]
          rw [et, get6_head hh h1.addrOK h2.addrOK hb, if_pos (by rw [List.length_take]; omega)]
      rw [if_pos (by rw [hg]; decide), hg]; rfl
    · rw [v, cond_false] at hl
      have f0 : vK ((put11 t b).1.take n) 0 1 = 69 := by rw [vK_take (by omega), e]; exact first5 t _ _ _
      unfold open11
      rw [f0, if_pos (by decide)]
      have hg : (get5 ((put11 t b).1.take n)).2.2 = 2 := by
        by_cases h20 : n < 20
        · unfold get5; rw [if_pos (by omega)]
        · have f2 : vK ((put11 t b).1.take n) 2 2 = ((20 + b.length : Nat) : Int) := by
            rw [vK_take (by omega), e]
            obtain ⟨_, _, p2, _⟩ := hc5_parts (h5of t) (20 + b.length) (ck5 (h5of t) (20 + b.length)) b
            exact vK_of p2 rfl (by omega)
          unfold get5
          rw [if_neg (by omega), f0, f2, if_neg (by decide), if_neg (by decide), if_neg (by omega), if_pos (by omega)]
      rw [if_pos (by rw [hg]; decide), hg]; rfl
  rw [if_pos (by rw [key]; decide), key]
theorem put7_ok {h : tcp_Head} {src dst : api_Addr} {l : List UInt8} (h0 : (put7 h src dst l).2 = 0) : H7 h = true ∧ pseu src dst 6 (20 + h.Options.length + l.length) ≠ [] ∧ put7 h src dst l = (hc7 h (ck7 (pseu src dst 6 (20 + h.Options.length + l.length)) h l) ++ l, 0) := by
  unfold put7 at h0 ⊢
  cases hh : H7 h
  · rw [if_pos hh] at h0; exact absurd h0 (by decide)
  rw [if_neg (by rw [hh]; decide)] at h0
  rw [if_neg (by decide)]
  by_cases hp : pseu src dst 6 (20 + h.Options.length + l.length) = []
  · rw [if_pos hp] at h0; exact absurd h0 (by decide)
  rw [if_neg hp] at h0 ⊢
  by_cases hl : 65535 - (20 + (h.Options.length : Int)) < l.length
  · rw [if_pos hl] at h0; exact absurd h0 (by decide)
  rw [if_neg hl]
  exact ⟨rfl, hp, rfl⟩
theorem in_seg {t : api_Tuple} {h : tcp_Head} {l : List UInt8} {z n : Nat} (hw : W7 h) (ho : (opt7 h.Options).2 = 0) (h0 : (put7 h t.Src t.Dst l).2 = 0) (hp : t.Proto = 6) :
    in11 ⟨t.Src, t.Dst, t.Proto, z, (put7 h t.Src t.Dst l).1, 0⟩ n = (⟨⟨t.Proto, t.Src, t.Dst, h.SPort, h.DPort⟩, h.Flags, (st11 h.Options).1, (st11 h.Options).2.1, (st11 h.Options).2.2, false, [], n⟩, l.length, 0) := by
  obtain ⟨a, b, c⟩ := put7_ok h0
  have hg := get_put7 a hw ho b
  rw [show hc7 h (ck7 (pseu t.Src t.Dst 6 (20 + h.Options.length + l.length)) h l) ++ l = (put7 h t.Src t.Dst l).1 by rw [c]] at hg
  unfold in11
  rw [if_pos hp]
  simp only []
  rw [hg, if_neg (by simp)]
theorem in_dat {t : api_Tuple} {h : udp_Head} {l : List UInt8} {z n : Nat} (h0 : (put8 h t.Src t.Dst l).2 = 0) (hp : t.Proto = 17) :
    in11 ⟨t.Src, t.Dst, t.Proto, z, (put8 h t.Src t.Dst l).1, 0⟩ n = (⟨⟨t.Proto, t.Src, t.Dst, h.SPort, h.DPort⟩, 0, false, 0, 0, (qc11 l).1, (qc11 l).2, n⟩, l.length, 0) := by
  have hg := get_put8 h0
  obtain ⟨_, _, _, _, c⟩ := put8_ok h0
  have hlen : (put8 h t.Src t.Dst l).1.length = 8 + l.length := by rw [c]; exact dg_len _ _ _
  unfold in11
  rw [if_neg (by show ¬ t.Proto = 6; omega), if_pos hp]
  simp only []
  rw [hg, if_neg (by simp), if_neg (by rw [hlen]; simp only []; omega)]
theorem p11put_eq {t : api_Tuple} {b : List UInt8} (h1 : A4 t.Src) (h2 : A4 t.Dst) (hb : b.length < 2 ^ 20) : packet_Put t b = some (put11 t b) := by
  unfold packet_Put packet_PutF
  have key : (t.Proto = 6 ∨ t.Proto = 17) → (cond (!(t.Src.V6 == t.Dst.V6)) (some (([], 1) : List UInt8 × Int))
      ((addr_Right t.Src).bind fun xr => cond (!xr) (some ([], 1)) ((addr_Right t.Dst).bind fun xr1 => cond (!xr1) (some ([], 1))
        (cond t.Src.V6
          ((ipsix_Put (ipsix_Head.mk 0 0 t.Proto 64 t.Src t.Dst) b).bind fun p => cond (p.2 == 0) (cond (decide ((p.1.length : Int) > 9000)) (some ([], 5)) (some (p.1, p.2))) (some (p.1, p.2)))
          ((ipfour_Put (ipfour_Head.mk 0 0 true 64 t.Proto t.Src t.Dst []) b).bind fun p1 => cond (p1.2 == 0) (cond (decide ((p1.1.length : Int) > 9000)) (some ([], 5)) (some (p1.1, p1.2))) (some (p1.1, p1.2))))))) = some (put11 t b) := by
    intro hp
    unfold put11
    by_cases g1 : t.Src.V6 = t.Dst.V6
    · rw [show (!(t.Src.V6 == t.Dst.V6)) = false by simp [g1], cond_false, aRight_eq, aRight_eq, Option.bind_some, Option.bind_some]
      cases g2 : aok t.Src
      · rw [if_pos (.inr (.inl rfl))]; rfl
      cases g3 : aok t.Dst
      · rw [if_pos (.inr (.inr (.inl rfl)))]; rfl
      rw [Bool.not_true, cond_false, cond_false, put6_eq (h := ⟨0, 0, t.Proto, 64, t.Src, t.Dst⟩) h1.addrOK h2.addrOK (by omega), p5_eq (h := ⟨0, 0, true, 64, t.Proto, t.Src, t.Dst, []⟩) h1 h2 (by omega) (by simp)]
      simp only [Option.bind_some, fin11]
      rw [if_neg (show ¬ (t.Src.V6 ≠ t.Dst.V6 ∨ true = false ∨ true = false ∨ (t.Proto ≠ 6 ∧ t.Proto ≠ 17)) from fun h => h.elim (fun x => x g1) fun h => h.elim (fun x => by cases x) fun h => h.elim (fun x => by cases x) fun x => by omega)]
      unfold raw11 h5of h6of
      cases t.Src.V6 <;> rfl
    · rw [show (!(t.Src.V6 == t.Dst.V6)) = true by simp [g1], cond_true, if_pos (.inl g1)]
  by_cases p6 : t.Proto = 6
  · rw [show (t.Proto == 6) = true by simpa using p6, cond_true]; exact key (.inl p6)
  · rw [show (t.Proto == 6) = false by simpa using p6, cond_false]
    by_cases p17 : t.Proto = 17
    · rw [show (!(t.Proto == 17)) = false by simp [p17], cond_false]; exact key (.inr p17)
    · rw [show (!(t.Proto == 17)) = true by simp [p17], cond_true]
      unfold put11
      rw [if_pos (.inr (.inr (.inr ⟨p6, p17⟩)))]
theorem p11seg_eq {t : api_Tuple} {flags : Int} {o l : List UInt8} (h1 : A4 t.Src) (h2 : A4 t.Dst) (ho : o.length < 2 ^ 18) (hl : l.length < 2 ^ 18) : packet_Segment t flags o l = some (seg11 t flags o l) := by
  unfold packet_Segment packet_SegmentF seg11
  by_cases g : t.Proto = 6
  · have hw : W7 ⟨t.SPort, t.DPort, 0, 0, flags, 65535, 0, o⟩ := ⟨⟨by simp only []; omega, by simp only []; omega⟩, by simp only []; omega, by simp only []; omega⟩
    have hlen := put7_len ⟨t.SPort, t.DPort, 0, 0, flags, 65535, 0, o⟩ t.Src t.Dst l
    simp only at hlen
    rw [show (t.Proto != 6) = false by simpa using g, cond_false, t7put_eq hw h1 h2 (by omega) (by simp only []; omega), Option.bind_some, if_neg (by simpa using g)]
    by_cases g2 : (put7 ⟨t.SPort, t.DPort, 0, 0, flags, 65535, 0, o⟩ t.Src t.Dst l).2 = 0
    · rw [show ((put7 ⟨t.SPort, t.DPort, 0, 0, flags, 65535, 0, o⟩ t.Src t.Dst l).2 != 0) = false by simpa using g2, cond_false, if_neg (by simpa using g2), p11put_eq h1 h2 (by omega)]; rfl
    · rw [show ((put7 ⟨t.SPort, t.DPort, 0, 0, flags, 65535, 0, o⟩ t.Src t.Dst l).2 != 0) = true by simpa using g2, cond_true, if_pos g2]
  · rw [show (t.Proto != 6) = true by simpa using g, cond_true, if_pos g]
theorem p11dat_eq {t : api_Tuple} {l : List UInt8} (h1 : A4 t.Src) (h2 : A4 t.Dst) (hl : l.length < 2 ^ 18) : packet_Datagram t l = some (dat11 t l) := by
  unfold packet_Datagram packet_DatagramF dat11
  by_cases g : t.Proto = 17
  · have hlen := put8_len ⟨t.SPort, t.DPort⟩ t.Src t.Dst l
    rw [show (t.Proto != 17) = false by simpa using g, cond_false, uput_eq h1 h2 (by omega), Option.bind_some, if_neg (by simpa using g)]
    by_cases g2 : (put8 ⟨t.SPort, t.DPort⟩ t.Src t.Dst l).2 = 0
    · rw [show ((put8 ⟨t.SPort, t.DPort⟩ t.Src t.Dst l).2 != 0) = false by simpa using g2, cond_false, if_neg (by simpa using g2), p11put_eq h1 h2 (by omega)]; rfl
    · rw [show ((put8 ⟨t.SPort, t.DPort⟩ t.Src t.Dst l).2 != 0) = true by simpa using g2, cond_true, if_pos g2]
  · rw [show (t.Proto != 17) = true by simpa using g, cond_true, if_pos g]
theorem seg11_ok {t : api_Tuple} {flags : Int} {o l : List UInt8} (h0 : (seg11 t flags o l).2 = 0) : t.Proto = 6 ∧ (put7 ⟨t.SPort, t.DPort, 0, 0, flags, 65535, 0, o⟩ t.Src t.Dst l).2 = 0 ∧ seg11 t flags o l = put11 t (put7 ⟨t.SPort, t.DPort, 0, 0, flags, 65535, 0, o⟩ t.Src t.Dst l).1 := by
  unfold seg11 at h0 ⊢
  by_cases g : t.Proto = 6
  · rw [if_neg (by simpa using g)] at h0 ⊢
    by_cases g2 : (put7 ⟨t.SPort, t.DPort, 0, 0, flags, 65535, 0, o⟩ t.Src t.Dst l).2 = 0
    · rw [if_neg (by simpa using g2)]
      exact ⟨g, g2, rfl⟩
    · rw [if_pos g2] at h0; exact absurd h0 g2
  · rw [if_pos g] at h0; exact absurd h0 (by decide)
theorem dat11_ok {t : api_Tuple} {l : List UInt8} (h0 : (dat11 t l).2 = 0) : t.Proto = 17 ∧ (put8 ⟨t.SPort, t.DPort⟩ t.Src t.Dst l).2 = 0 ∧ dat11 t l = put11 t (put8 ⟨t.SPort, t.DPort⟩ t.Src t.Dst l).1 := by
  unfold dat11 at h0 ⊢
  by_cases g : t.Proto = 17
  · rw [if_neg (by simpa using g)] at h0 ⊢
    by_cases g2 : (put8 ⟨t.SPort, t.DPort⟩ t.Src t.Dst l).2 = 0
    · rw [if_neg (by simpa using g2)]
      exact ⟨g, g2, rfl⟩
    · rw [if_pos g2] at h0; exact absurd h0 g2
  · rw [if_pos g] at h0; exact absurd h0 (by decide)
theorem put11_bad {t : api_Tuple} {b : List UInt8} (h : (put11 t b).2 ≠ 0) : (put11 t b).1 = [] := by
  unfold put11 at h ⊢
  by_cases g : t.Src.V6 ≠ t.Dst.V6 ∨ aok t.Src = false ∨ aok t.Dst = false ∨ (t.Proto ≠ 6 ∧ t.Proto ≠ 17)
  · rw [if_pos g]
  rw [if_neg g] at h ⊢
  by_cases g2 : (raw11 t b).2 = 0 ∧ 9000 < (raw11 t b).1.length
  · rw [if_pos g2]
  rw [if_neg g2] at h ⊢
  unfold raw11 at h ⊢
  cases hv : t.Src.V6
  · rw [hv, cond_false] at h
    rw [cond_false]
    unfold put5 at h ⊢
    split
    · rfl
    rename_i a
    rw [if_neg a] at h
    split
    · rfl
    rename_i a2
    rw [if_neg a2] at h
    exact absurd rfl h
  · rw [hv, cond_true] at h
    rw [cond_true]
    unfold put6 at h ⊢
    split
    · rfl
    rename_i a
    rw [if_neg a] at h
    split
    · rfl
    rename_i a2
    rw [if_neg a2] at h
    exact absurd rfl h
theorem seg11_bad {t : api_Tuple} {flags : Int} {o l : List UInt8} (h0 : (seg11 t flags o l).2 ≠ 0) : (seg11 t flags o l).1 = [] := by
  unfold seg11 at h0 ⊢
  split
  · rfl
  rename_i a
  rw [if_neg a] at h0
  split
  · rfl
  rename_i a2
  rw [if_neg a2] at h0
  exact put11_bad h0
theorem dat11_bad {t : api_Tuple} {l : List UInt8} (h0 : (dat11 t l).2 ≠ 0) : (dat11 t l).1 = [] := by
  unfold dat11 at h0 ⊢
  split
  · rfl
  rename_i a
  rw [if_neg a] at h0
  split
  · rfl
  rename_i a2
  rw [if_neg a2] at h0
  exact put11_bad h0
end Go.Vm.Code
namespace Go.Vm.Code
open Go Go.Vm Go.Proofs
set_option maxRecDepth 100000
set_option maxHeartbeats 4000000
set_option linter.unusedVariables false
def law11_awakeF (packet_Parse : (List UInt8) → Option (api_Packet × Int)) (packet_Segment : api_Tuple → Int → (List UInt8) → (List UInt8) → Option ((List UInt8) × Int)) : Option Bool :=
  (packet_Parse []).bind fun p =>
  (packet_Segment (api_Tuple.mk 6 (api_Addr.mk false 0 1) (api_Addr.mk false 0 2) 3 4) 2 [] [104, 105]).bind fun s =>
  (packet_Parse s.1).bind fun p1 =>
  cond (p.2 == 2)
    (
    cond (s.2 == 0)
      (
      cond ((s.1.length : Int) == 42)
        (
        cond (p1.2 == 0)
          (
          let t := (p1.1.Tuple.Proto == 6) && ((p1.1.Tuple.Src.V6 == false) && ((p1.1.Tuple.Src.Hi == 0) && ((p1.1.Tuple.Src.Lo == 1) && ((p1.1.Tuple.Dst.V6 == false) && ((p1.1.Tuple.Dst.Hi == 0) && ((p1.1.Tuple.Dst.Lo == 2) && ((p1.1.Tuple.SPort == 3) && ((p1.1.Tuple.DPort == 4) && true))))))))
          cond (t)
            (
            some (p1.1.Flags == 2))
            (
            some (false)))
          (
          some (false)))
        (
        some (false)))
      (
      some (false)))
    (
    some (false))
def rx13 (x : Bool) : SRes := ⟨.bool x, [], []⟩
def r13 (g : Option Bool) : Dec := dEnd (ofG (g) rx13)
theorem r13_c {g : Option Bool} {x : Bool} (hx : g = some x) : r13 g [] [] = some (rx13 x) := ofG_eq hx
def s13 (g : Option Bool) : Summ := ⟨[], r13 g⟩
theorem r13_eq {g : Option Bool} {x : Bool} (hx : g = some x) : (s13 g).run [] [] = some (rx13 x) := r13_c hx
abbrev sums13 (packet_Parse : (List UInt8) → Option (api_Packet × Int)) (packet_Segment : api_Tuple → Int → (List UInt8) → (List UInt8) → Option ((List UInt8) × Int)) : List (Nat × Summ) := [(16, s16 packet_Parse), (14, s14 packet_Segment)]
theorem leads13 (packet_Parse : (List UInt8) → Option (api_Packet × Int)) (packet_Segment : api_Tuple → Int → (List UInt8) → (List UInt8) → Option ((List UInt8) × Int)) (hS : SumsOK Try.prog (aget (sums13 packet_Parse packet_Segment))) (res : Bool) (h : law11_awakeF packet_Parse packet_Segment = some res) :
    Leads Try.prog 13 0 ⟨⟨13, 51, [], [.code k13_11], [], false, none⟩, [], [], 0⟩ (fun v H _ => Res 0 (rx13 res) v H) := by
  unfold law11_awakeF at h
  refine ev_ok tab_ok hS true 3000 ?_
  conv => whnf
  replace h := obind.elim h; obtain ⟨p, hy, h⟩ := h
  refine sumK.q rfl rfl (r16_eq hy) rfl rfl rfl ?_
  conv => whnf
  replace h := obind.elim h; obtain ⟨s, hy, h⟩ := h
  refine sumK.q rfl rfl (r14_eq hy) rfl rfl rfl ?_
  conv => whnf
  replace h := obind.elim h; obtain ⟨p1, hy, h⟩ := h
  refine sumK.q rfl rfl (r16_eq hy) rfl rfl rfl ?_
  conv => whnf
  refine br.h2 h ?_ ?_ ?_
  · rfl
  · clear h; intro hb h; conv => whnf
    all_goals (cases h; exact Res.z rfl rfl rfl)
  clear h; intro hb h; conv => whnf
  refine br.h2 h ?_ ?_ ?_
  · rfl
  · clear h; intro hb h; conv => whnf
    all_goals (cases h; exact Res.z rfl rfl rfl)
  clear h; intro hb h; conv => whnf
  refine br.h2 h ?_ ?_ ?_
  · rfl
  · clear h; intro hb h; conv => whnf
    all_goals (cases h; exact Res.z rfl rfl rfl)
  clear h; intro hb h; conv => whnf
  refine br.h2 h ?_ ?_ ?_
  · rfl
  · clear h; intro hb h; conv => whnf
    all_goals (cases h; exact Res.z rfl rfl rfl)
  clear h; intro hb h; conv => whnf
  let t : Bool := (p1.1.Tuple.Proto == 6) && ((p1.1.Tuple.Src.V6 == false) && ((p1.1.Tuple.Src.Hi == 0) && ((p1.1.Tuple.Src.Lo == 1) && ((p1.1.Tuple.Dst.V6 == false) && ((p1.1.Tuple.Dst.Hi == 0) && ((p1.1.Tuple.Dst.Lo == 2) && ((p1.1.Tuple.SPort == 3) && ((p1.1.Tuple.DPort == 4) && true))))))))
  refine br.h h ?_ ?_ ?_
  · rfl
  · clear h; intro hb h; conv => whnf
    all_goals (cases h; exact Res.z rfl rfl rfl)
  clear h; intro hb h; conv => whnf
  all_goals (cases h; exact Res.z rfl rfl rfl)
theorem ok13 (packet_Parse : (List UInt8) → Option (api_Packet × Int)) (packet_Segment : api_Tuple → Int → (List UInt8) → (List UInt8) → Option ((List UInt8) × Int)) (hS : SumsOK Try.prog (aget (sums13 packet_Parse packet_Segment))) : SumOK Try.prog 13 (s13 (law11_awakeF packet_Parse packet_Segment)) := by
  refine SumOK.of_leads tab_ok (fun ar os r ha hr => ?_) ⟨Try.f13, rfl, by decide, rfl⟩
  replace hr : r13 (law11_awakeF packet_Parse packet_Segment) ar (conts os) = some r := hr
  unfold r13 at hr
  generalize hc : conts os = C at hr
  replace hr := dFin hr; obtain ⟨rfl, rfl, x, h, rfl⟩ := hr
  obtain rfl := kinds_nil hc
  exact ⟨_, rfl, leads13 packet_Parse packet_Segment hS x h⟩
def law11_awake : Option Bool := law11_awakeF packet_Parse packet_Segment
theorem lift13 : SumOK Try.prog 13 (s13 law11_awake) := ok13 packet_Parse packet_Segment (SumsOK.of_tab ⟨lift16, lift14, trivial⟩)
def law11_PacketSpoiltF (R07_Small : (List (List UInt8)) → Int → Option Bool) (law11_awake : Option Bool) (packet_Datagram : api_Tuple → (List UInt8) → Option ((List UInt8) × Int)) (packet_Parse : (List UInt8) → Option (api_Packet × Int)) (packet_Segment : api_Tuple → Int → (List UInt8) → (List UInt8) → Option ((List UInt8) × Int)) (t : api_Tuple) (flags : Int) (payload : List UInt8) (ata3 : Int) (more : List UInt8) : Option Bool :=
  (R07_Small [payload, more] 50).bind fun s =>
  cond (!s)
    (
    (law11_awake).bind fun a =>
    some (a))
    (
    (packet_Segment t flags [] payload).bind fun s1 =>
    (packet_Datagram t payload).bind fun d =>
    cond (d.2 == 0)
      (
      cond ((d.1.length : Int) == 0)
        (
        some (false))
        (
        oreq (!(decide ((d.1.length : Int) = 0))) <|
        oreq (decide ((0 : Int) ≤ ((wI .i64 ata3).tmod (d.1.length : Int)) ∧ ((wI .i64 ata3).tmod (d.1.length : Int)) ≤ (d.1.length : Int))) <|
        let t1 := d.1.take ((wI .i64 ata3).tmod (d.1.length : Int)).toNat
        (packet_Parse t1).bind fun p =>
        oreq (decide (d.1.length + more.length < 2 ^ 63)) <|
        (packet_Parse (d.1 ++ more)).bind fun p1 =>
        cond (p.2 == 2)
          (
          cond (more == [])
            (
            cond (p1.2 == 0)
              (
              (law11_awake).bind fun a1 =>
              some (a1))
              (
              some (false)))
            (
            cond (p1.2 == 5)
              (
              (law11_awake).bind fun a2 =>
              some (a2))
              (
              some (false))))
          (
          some (false))))
      (
      cond (s1.2 != 0)
        (
        cond (s1.1 == [])
          (
          cond (d.1 == [])
            (
            (law11_awake).bind fun a3 =>
            some (a3))
            (
            some (false)))
          (
          some (false)))
        (
        cond ((s1.1.length : Int) == 0)
          (
          some (false))
          (
          oreq (!(decide ((s1.1.length : Int) = 0))) <|
          oreq (decide ((0 : Int) ≤ ((wI .i64 ata3).tmod (s1.1.length : Int)) ∧ ((wI .i64 ata3).tmod (s1.1.length : Int)) ≤ (s1.1.length : Int))) <|
          let t2 := s1.1.take ((wI .i64 ata3).tmod (s1.1.length : Int)).toNat
          (packet_Parse t2).bind fun p2 =>
          oreq (decide (s1.1.length + more.length < 2 ^ 63)) <|
          (packet_Parse (s1.1 ++ more)).bind fun p3 =>
          cond (p2.2 == 2)
            (
            cond (more == [])
              (
              cond (p3.2 == 0)
                (
                (law11_awake).bind fun a4 =>
                some (a4))
                (
                some (false)))
              (
              cond (p3.2 == 5)
                (
                (law11_awake).bind fun a5 =>
                some (a5))
                (
                some (false))))
            (
            some (false))))))
def rx5 (x : Bool) : SRes := ⟨.bool x, [], []⟩
def r5 (g : api_Tuple → Int → (List UInt8) → Int → (List UInt8) → Option Bool) : Dec := dV uvapi_Tuple fun (y0 : api_Tuple) => dV (asI .i64) fun (y1 : Int) => dV asS fun (y2 : List UInt8) => dV (asI .u16) fun (y3 : Int) => dV asS fun (y4 : List UInt8) => dEnd (ofG (g y0 y1 y2 y3 y4) rx5)
def s5 (g : api_Tuple → Int → (List UInt8) → Int → (List UInt8) → Option Bool) : Summ := ⟨[.v, .v, .v, .v, .v], r5 g⟩
abbrev sums5 (R07_Small : (List (List UInt8)) → Int → Option Bool) (law11_awake : Option Bool) (packet_Datagram : api_Tuple → (List UInt8) → Option ((List UInt8) × Int)) (packet_Parse : (List UInt8) → Option (api_Packet × Int)) (packet_Segment : api_Tuple → Int → (List UInt8) → (List UInt8) → Option ((List UInt8) × Int)) : List (Nat × Summ) := [(7, s7 R07_Small), (13, s13 law11_awake), (17, s17 packet_Datagram), (16, s16 packet_Parse), (14, s14 packet_Segment)]
theorem leads5 (R07_Small : (List (List UInt8)) → Int → Option Bool) (law11_awake : Option Bool) (packet_Datagram : api_Tuple → (List UInt8) → Option ((List UInt8) × Int)) (packet_Parse : (List UInt8) → Option (api_Packet × Int)) (packet_Segment : api_Tuple → Int → (List UInt8) → (List UInt8) → Option ((List UInt8) × Int)) (hS : SumsOK Try.prog (aget (sums5 R07_Small law11_awake packet_Datagram packet_Parse packet_Segment))) (t : api_Tuple) (flags : Int) (payload : List UInt8) (ata3 : Int) (more : List UInt8) (res : Bool) (h : law11_PacketSpoiltF R07_Small law11_awake packet_Datagram packet_Parse packet_Segment t flags payload ata3 more = some res) :
    Leads Try.prog 5 0 ⟨⟨5, 94, [(0, .agg ⟨[.int .i64 t.Proto, .bool t.Src.V6, .int .u64 t.Src.Hi, .int .u64 t.Src.Lo, .bool t.Dst.V6, .int .u64 t.Dst.Hi, .int .u64 t.Dst.Lo, .int .i64 t.SPort, .int .i64 t.DPort]⟩), (1, .int .i64 flags), (2, .string ⟨⟨payload⟩⟩), (3, .int .u16 ata3), (4, .string ⟨⟨more⟩⟩)], [.code k5_33], [], false, none⟩, [], [], 0⟩ (fun v H _ => Res 0 (rx5 res) v H) := by
  unfold law11_PacketSpoiltF at h
  refine ev_ok tab_ok hS true 3000 ?_
  conv => whnf
  replace h := obind.elim h; obtain ⟨s, hy, h⟩ := h
  refine sumK.introF [] (sumRun_of (aqs := [.slice (some ⟨0, 0, none⟩) ([payload, more] : List (List UInt8)).length 1, .int .i64 50]) (ws := [.win 1 0 (2 * 1) false]) (n := 0) (m := 0) (t' := 2) (ra_cons (by first | rfl | exact ra_allS rfl rfl (by first | rfl | omega) (by first | rfl | (simp; done)) | exact ra_slS rfl rfl (by first | rfl | omega) (by first | rfl | omega) (by first | omega | (simp at *; omega))) rfl (ra_cons rfl rfl ra_nil)) rfl (by rfl) (r7_eq hy) rfl rfl rfl rfl (wb_skip rfl wb_nil) an_nil rfl) ?_
  conv => whnf
  refine br.h h ?_ ?_ ?_
  · rfl
  · clear h; intro hb h; conv => whnf
    replace h := obind.elim h; obtain ⟨a, hy, h⟩ := h
    refine sumK.q rfl rfl (r13_eq hy) rfl rfl rfl ?_
    conv => whnf
    all_goals (cases h; exact Res.z rfl rfl rfl)
  clear h; intro hb h; conv => whnf
  replace h := obind.elim h; obtain ⟨s1, hy, h⟩ := h
  refine sumK.q rfl rfl (r14_eq hy) rfl rfl rfl ?_
  conv => whnf
  replace h := obind.elim h; obtain ⟨d, hy, h⟩ := h
  refine sumK.q rfl rfl (r17_eq hy) rfl rfl rfl ?_
  conv => whnf
  refine br.h h ?_ ?_ ?_
  · rfl
  · clear h; intro hb h; conv => whnf
    refine br.h h ?_ ?_ ?_
    · rfl
    · clear h; intro hb h; conv => whnf
      all_goals (cases h; exact Res.z rfl rfl rfl)
    clear h; intro hb h; conv => whnf
    replace h := oreq.elim h; obtain ⟨hb, h⟩ := h
    first | (refine req.intro hb ?_; conv => whnf) | skip
    replace h := oreq.elim h; obtain ⟨hb, h⟩ := h
    first | (refine req.intro hb ?_; conv => whnf) | skip
    let t1 : List UInt8 := d.1.take ((wI .i64 ata3).tmod (d.1.length : Int)).toNat
    replace h := obind.elim h; obtain ⟨p, hy, h⟩ := h
    refine sumK.q rfl rfl (r16_eq hy) rfl rfl rfl ?_
    conv => whnf
    replace h := oreq.elim h; obtain ⟨hb, h⟩ := h
    first | (refine req.intro hb ?_; conv => whnf) | skip
    replace h := obind.elim h; obtain ⟨p1, hy, h⟩ := h
    refine sumK.q rfl rfl (r16_eq hy) rfl rfl rfl ?_
    conv => whnf
    refine br.h2 h ?_ ?_ ?_
    · rfl
    · clear h; intro hb h; conv => whnf
      all_goals (cases h; exact Res.z rfl rfl rfl)
    clear h; intro hb h; conv => whnf
    refine br.h h ?_ ?_ ?_
    · rfl
    · clear h; intro hb h; conv => whnf
      refine br.h h ?_ ?_ ?_
      · rfl
      · clear h; intro hb h; conv => whnf
        replace h := obind.elim h; obtain ⟨a1, hy, h⟩ := h
        refine sumK.q rfl rfl (r13_eq hy) rfl rfl rfl ?_
        conv => whnf
        all_goals (cases h; exact Res.z rfl rfl rfl)
      clear h; intro hb h; conv => whnf
      refine br.neg ?_ ?_; (focus (clear h; first | assumption | (simp_all; done)))
      conv => whnf
      all_goals (cases h; exact Res.z rfl rfl rfl)
    clear h; intro hb h; conv => whnf
    refine br.pos ?_ ?_; (focus (clear h; first | assumption | (simp_all; done)))
    conv => whnf
    refine br.h2 h ?_ ?_ ?_
    · rfl
    · clear h; intro hb h; conv => whnf
      all_goals (cases h; exact Res.z rfl rfl rfl)
    clear h; intro hb h; conv => whnf
    replace h := obind.elim h; obtain ⟨a2, hy, h⟩ := h
    refine sumK.q rfl rfl (r13_eq hy) rfl rfl rfl ?_
    conv => whnf
    all_goals (cases h; exact Res.z rfl rfl rfl)
  clear h; intro hb h; conv => whnf
  refine br.h h ?_ ?_ ?_
  · rfl
  · clear h; intro hb h; conv => whnf
    refine br.h2 h ?_ ?_ ?_
    · rfl
    · clear h; intro hb h; conv => whnf
      all_goals (cases h; exact Res.z rfl rfl rfl)
    clear h; intro hb h; conv => whnf
    refine br.h2 h ?_ ?_ ?_
    · rfl
    · clear h; intro hb h; conv => whnf
      all_goals (cases h; exact Res.z rfl rfl rfl)
    clear h; intro hb h; conv => whnf
    replace h := obind.elim h; obtain ⟨a3, hy, h⟩ := h
    refine sumK.q rfl rfl (r13_eq hy) rfl rfl rfl ?_
    conv => whnf
    all_goals (cases h; exact Res.z rfl rfl rfl)
  clear h; intro hb h; conv => whnf
  refine br.h h ?_ ?_ ?_
  · rfl
  · clear h; intro hb h; conv => whnf
    all_goals (cases h; exact Res.z rfl rfl rfl)
  clear h; intro hb h; conv => whnf
  replace h := oreq.elim h; obtain ⟨hb, h⟩ := h
  first | (refine req.intro hb ?_; conv => whnf) | skip
  replace h := oreq.elim h; obtain ⟨hb, h⟩ := h
  first | (refine req.intro hb ?_; conv => whnf) | skip
  let t2 : List UInt8 := s1.1.take ((wI .i64 ata3).tmod (s1.1.length : Int)).toNat
  replace h := obind.elim h; obtain ⟨p2, hy, h⟩ := h
  refine sumK.q rfl rfl (r16_eq hy) rfl rfl rfl ?_
  conv => whnf
  replace h := oreq.elim h; obtain ⟨hb, h⟩ := h
  first | (refine req.intro hb ?_; conv => whnf) | skip
  replace h := obind.elim h; obtain ⟨p3, hy, h⟩ := h
  refine sumK.q rfl rfl (r16_eq hy) rfl rfl rfl ?_
  conv => whnf
  refine br.h2 h ?_ ?_ ?_
  · rfl
  · clear h; intro hb h; conv => whnf
    all_goals (cases h; exact Res.z rfl rfl rfl)
  clear h; intro hb h; conv => whnf
  refine br.h h ?_ ?_ ?_
  · rfl
  · clear h; intro hb h; conv => whnf
    refine br.h h ?_ ?_ ?_
    · rfl
    · clear h; intro hb h; conv => whnf
      replace h := obind.elim h; obtain ⟨a4, hy, h⟩ := h
      refine sumK.q rfl rfl (r13_eq hy) rfl rfl rfl ?_
      conv => whnf
      all_goals (cases h; exact Res.z rfl rfl rfl)
    clear h; intro hb h; conv => whnf
    refine br.neg ?_ ?_; (focus (clear h; first | assumption | (simp_all; done)))
    conv => whnf
    all_goals (cases h; exact Res.z rfl rfl rfl)
  clear h; intro hb h; conv => whnf
  refine br.pos ?_ ?_; (focus (clear h; first | assumption | (simp_all; done)))
  conv => whnf
  refine br.h2 h ?_ ?_ ?_
  · rfl
  · clear h; intro hb h; conv => whnf
    all_goals (cases h; exact Res.z rfl rfl rfl)
  clear h; intro hb h; conv => whnf
  replace h := obind.elim h; obtain ⟨a5, hy, h⟩ := h
  refine sumK.q rfl rfl (r13_eq hy) rfl rfl rfl ?_
  conv => whnf
  all_goals (cases h; exact Res.z rfl rfl rfl)
def law11_PacketSpoilt : api_Tuple → Int → (List UInt8) → Int → (List UInt8) → Option Bool := law11_PacketSpoiltF R07_Small law11_awake packet_Datagram packet_Parse packet_Segment
end Go.Vm.Code
namespace Go.Vm.Code
open Go Go.Vm
theorem awake11s : law11_awake = some true := by decide +kernel
def tail11s (d : List UInt8 × Int) (more : List UInt8) (ata3 : Int) : Option Bool :=
      cond ((d.1.length : Int) == 0)
        (
        some (false))
        (
        oreq (!(decide ((d.1.length : Int) = 0))) <|
        oreq (decide ((0 : Int) ≤ ((wI .i64 ata3).tmod (d.1.length : Int)) ∧ ((wI .i64 ata3).tmod (d.1.length : Int)) ≤ (d.1.length : Int))) <|
        let t1 := d.1.take ((wI .i64 ata3).tmod (d.1.length : Int)).toNat
        (packet_Parse t1).bind fun p =>
        oreq (decide (d.1.length + more.length < 2 ^ 63)) <|
        (packet_Parse (d.1 ++ more)).bind fun p1 =>
        cond (p.2 == 2)
          (
          cond (more == [])
            (
            cond (p1.2 == 0)
              (
              (law11_awake).bind fun a1 =>
              some (a1))
              (
              some (false)))
            (
            cond (p1.2 == 5)
              (
              (law11_awake).bind fun a2 =>
              some (a2))
              (
              some (false))))
          (
          some (false)))
theorem tail11s_eq {t : api_Tuple} {b more : List UInt8} {bit : Int} (h1 : A4 t.Src) (h2 : A4 t.Dst) (h0 : (put11 t b).2 = 0) (hi : (in11 ⟨t.Src, t.Dst, t.Proto, cond t.Src.V6 40 20, b, 0⟩ (put11 t b).1.length).2.2 = 0) (hm : more.length ≤ 50) (hb : 0 ≤ bit ∧ bit < 65536) : tail11s (put11 t b) more bit = some true := by
  obtain ⟨hl, h9⟩ := made_len h0
  have hpos : 0 < (put11 t b).1.length := by cases hv : t.Src.V6 <;> rw [hv] at hl <;> simp only [cond_true, cond_false] at hl <;> omega
  have htm := told_made h1 h2 h0
  rw [if_neg (by simpa using hi)] at htm
  have hmore := fun x => told_more (more := more) h1 h2 h0 x
  have hless : ∀ n, n < (put11 t b).1.length → (told11 ((put11 t b).1.take n)).2.2.2 = 2 := fun n hn => told_less h1 h2 h0 hn
  unfold tail11s
  rw [awake11s]
  generalize (put11 t b).1 = P at *
  rw [show ((P.length : Int) == 0) = false by simp; intro e; rw [e] at hpos; simp at hpos, cond_false, oreq.mk (b := !(decide ((P.length : Int) = 0))) (by rw [Bool.not_eq_true', decide_eq_false_iff_not]; omega), wI64 (n := bit) (by omega) (by omega)]
  have e0 : bit.tmod (P.length : Int) = ((bit.toNat % P.length : Nat) : Int) := by
    rw [Int.tmod_eq_emod_of_nonneg hb.1, Int.natCast_emod, Int.toNat_of_nonneg hb.1]
  have hk := Nat.mod_lt bit.toNat hpos
  rw [e0]
  generalize bit.toNat % P.length = k at *
  simp only [Int.toNat_natCast]
  rw [oreq_p (by omega), parse_eq (by rw [List.length_take]; omega), Option.bind_some, hless k hk, oreq_p (by omega), parse_eq (by rw [List.length_append]; omega), Option.bind_some]
  simp only [beq_self_eq_true, cond_true]
  by_cases g : more = []
  · subst g
    rw [List.append_nil, htm]; rfl
  · rw [show (more == []) = false by simpa using g, cond_false, hmore g]; rfl
theorem opt7_nil : (opt7 []).2 = 0 := by unfold opt7; rw [show ([] : List UInt8).length = 0 from rfl, optF]
theorem packetSpoilt (t : api_Tuple) (flags : Int) (l : List UInt8) (bit : Int) (more : List UInt8) (h1 : A4 t.Src) (h2 : A4 t.Dst) (hb : 0 ≤ bit ∧ bit < 65536) : law11_PacketSpoilt t flags l bit more = some true := by
  unfold law11_PacketSpoilt law11_PacketSpoiltF
  rw [small_eq (by simp), Option.bind_some]
  cases hc : [l, more].all fun x => decide ((x.length : Int) ≤ 50)
  · rw [awake11s]; rfl
  simp only [List.all_cons, List.all_nil, Bool.and_true, Bool.and_eq_true, decide_eq_true_eq] at hc
  rw [Bool.not_true, cond_false, p11seg_eq h1 h2 (by simp) (by omega), Option.bind_some, p11dat_eq h1 h2 (by omega), Option.bind_some]
  by_cases gd : (dat11 t l).2 = 0
  · rw [show ((dat11 t l).2 == 0) = true by simpa using gd, cond_true]
    obtain ⟨p17, d0, de⟩ := dat11_ok gd
    rw [de] at gd
    have hi := in_dat (t := t) (h := ⟨t.SPort, t.DPort⟩) (l := l) (z := cond t.Src.V6 40 20) (n := (put11 t (put8 ⟨t.SPort, t.DPort⟩ t.Src t.Dst l).1).1.length) d0 p17
    have ht := tail11s_eq (bit := bit) (more := more) h1 h2 gd (by rw [hi]) (by omega) hb
    unfold tail11s at ht
    rw [de]
    exact ht
  · rw [show ((dat11 t l).2 == 0) = false by simpa using gd, cond_false]
    by_cases gs : (seg11 t flags [] l).2 = 0
    · rw [show ((seg11 t flags [] l).2 != 0) = false by simpa using gs, cond_false]
      obtain ⟨p6, d0, de⟩ := seg11_ok gs
      rw [de] at gs
      have hw : W7 ⟨t.SPort, t.DPort, 0, 0, flags, 65535, 0, []⟩ := ⟨⟨by simp only []; omega, by simp only []; omega⟩, by simp only []; omega, by simp only []; omega⟩
      have hi := in_seg (t := t) (h := ⟨t.SPort, t.DPort, 0, 0, flags, 65535, 0, []⟩) (l := l) (z := cond t.Src.V6 40 20) (n := (put11 t (put7 ⟨t.SPort, t.DPort, 0, 0, flags, 65535, 0, []⟩ t.Src t.Dst l).1).1.length) hw opt7_nil d0 p6
      have ht := tail11s_eq (bit := bit) (more := more) h1 h2 gs (by rw [hi]) (by omega) hb
      unfold tail11s at ht
      rw [de]
      exact ht
    · rw [show ((seg11 t flags [] l).2 != 0) = true by simpa using gs, cond_true, seg11_bad gs, dat11_bad gd, awake11s]; rfl
end Go.Vm.Code
