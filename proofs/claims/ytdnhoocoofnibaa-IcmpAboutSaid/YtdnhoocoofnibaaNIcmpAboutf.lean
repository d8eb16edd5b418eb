import Derived.Test.YtdnhoocoofnibaaNIcmpAboute
namespace Go.Vm.Code
open Go Go.Vm Go.Proofs
set_option maxRecDepth 100000
set_option maxHeartbeats 4000000
set_option linter.unusedVariables false
def R11_DatagramF (R08_Put : udp_Head → api_Addr → api_Addr → (List UInt8) → Option ((List UInt8) × Int)) (R11_Put : api_Tuple → (List UInt8) → Option ((List UInt8) × Int)) (t : api_Tuple) (payload : List UInt8) : Option ((List UInt8) × Int) :=
  cond (t.Proto != 17)
    (
    some (([], 1)))
    (
    (R08_Put (udp_Head.mk t.SPort t.DPort) t.Src t.Dst payload).bind fun p =>
    cond (p.2 != 0)
      (
      some (([], p.2)))
      (
      (R11_Put t p.1).bind fun p1 =>
      some ((p1.1, p1.2))))
def rx45 (x : (List UInt8) × Int) : SRes := ⟨.tuple ⟨[.string ⟨⟨x.1⟩⟩, .int .i64 x.2]⟩, [], []⟩
def r45 (g : api_Tuple → (List UInt8) → Option ((List UInt8) × Int)) : Dec := dV uvapi_Tuple fun (y0 : api_Tuple) => dV asS fun (y1 : List UInt8) => dEnd (ofG (g y0 y1) rx45)
theorem r45_c {g : api_Tuple → (List UInt8) → Option ((List UInt8) × Int)} {y0 : api_Tuple} {y1 : List UInt8} {x : (List UInt8) × Int} (hx : g y0 y1 = some x) : r45 g [.agg ⟨[.int .i64 y0.Proto, .bool y0.Src.V6, .int .u64 y0.Src.Hi, .int .u64 y0.Src.Lo, .bool y0.Dst.V6, .int .u64 y0.Dst.Hi, .int .u64 y0.Dst.Lo, .int .i64 y0.SPort, .int .i64 y0.DPort]⟩, .string ⟨⟨y1⟩⟩] [] = some (rx45 x) := (dV_eq (uvapi_Tuple_c _)).trans ((dV_eq (asS_c)).trans (ofG_eq hx))
def s45 (g : api_Tuple → (List UInt8) → Option ((List UInt8) × Int)) : Summ := ⟨[.v, .v], r45 g⟩
theorem r45_eq {g : api_Tuple → (List UInt8) → Option ((List UInt8) × Int)} {y0 : api_Tuple} {y1 : List UInt8} {x : (List UInt8) × Int} (hx : g y0 y1 = some x) : (s45 g).run [.agg ⟨[.int .i64 y0.Proto, .bool y0.Src.V6, .int .u64 y0.Src.Hi, .int .u64 y0.Src.Lo, .bool y0.Dst.V6, .int .u64 y0.Dst.Hi, .int .u64 y0.Dst.Lo, .int .i64 y0.SPort, .int .i64 y0.DPort]⟩, .string ⟨⟨y1⟩⟩] [] = some (rx45 x) := r45_c hx
abbrev sums45 (R08_Put : udp_Head → api_Addr → api_Addr → (List UInt8) → Option ((List UInt8) × Int)) (R11_Put : api_Tuple → (List UInt8) → Option ((List UInt8) × Int)) : List (Nat × Summ) := [(17, s17 R08_Put), (105, s105 R11_Put)]
theorem leads45 (R08_Put : udp_Head → api_Addr → api_Addr → (List UInt8) → Option ((List UInt8) × Int)) (R11_Put : api_Tuple → (List UInt8) → Option ((List UInt8) × Int)) (hS : SumsOK Try.prog (aget (sums45 R08_Put R11_Put))) (t : api_Tuple) (payload : List UInt8) (res : (List UInt8) × Int) (h : R11_DatagramF R08_Put R11_Put t payload = some res) :
    Leads Try.prog 45 0 ⟨⟨45, 33, [(0, .agg ⟨[.int .i64 t.Proto, .bool t.Src.V6, .int .u64 t.Src.Hi, .int .u64 t.Src.Lo, .bool t.Dst.V6, .int .u64 t.Dst.Hi, .int .u64 t.Dst.Lo, .int .i64 t.SPort, .int .i64 t.DPort]⟩), (1, .string ⟨⟨payload⟩⟩)], [.code k45_17], [], false, none⟩, [], [], 0⟩ (fun v H _ => Res 0 (rx45 res) v H) := by
  unfold R11_DatagramF at h
  refine ev_ok tab_ok hS true 3000 ?_
  conv => whnf
  refine br.h h ?_ ?_ ?_
  · rfl
  · clear h; intro hb h; conv => whnf
    all_goals (cases h; exact Res.z rfl rfl rfl)
  clear h; intro hb h; conv => whnf
  replace h := obind.elim h; obtain ⟨p, hy, h⟩ := h
  refine sumK.q rfl rfl (r17_eq hy) rfl rfl rfl ?_
  conv => whnf
  refine br.h h ?_ ?_ ?_
  · rfl
  · clear h; intro hb h; conv => whnf
    all_goals (cases h; exact Res.z rfl rfl rfl)
  clear h; intro hb h; conv => whnf
  replace h := obind.elim h; obtain ⟨p1, hy, h⟩ := h
  refine sumK.q rfl rfl (r105_eq hy) rfl rfl rfl ?_
  conv => whnf
  all_goals (cases h; exact Res.z rfl rfl rfl)
theorem ok45 (R08_Put : udp_Head → api_Addr → api_Addr → (List UInt8) → Option ((List UInt8) × Int)) (R11_Put : api_Tuple → (List UInt8) → Option ((List UInt8) × Int)) (hS : SumsOK Try.prog (aget (sums45 R08_Put R11_Put))) : SumOK Try.prog 45 (s45 (R11_DatagramF R08_Put R11_Put)) := by
  refine SumOK.of_leads tab_ok (fun ar os r ha hr => ?_) ⟨Try.f45, rfl, by decide, rfl⟩
  replace hr : r45 (R11_DatagramF R08_Put R11_Put) ar (conts os) = some r := hr
  unfold r45 at hr
  generalize hc : conts os = C at hr
  replace hr := dV.elim hr; obtain ⟨v0, l1, y0, rfl, e0, hr⟩ := hr; obtain rfl := uvapi_Tuple_eq _ _ e0
  replace hr := dV.elim hr; obtain ⟨v1, l2, y1, rfl, e1, hr⟩ := hr; obtain rfl := asS_eq _ _ e1
  replace hr := dFin hr; obtain ⟨rfl, rfl, x, h, rfl⟩ := hr
  obtain rfl := kinds_nil hc
  exact ⟨_, rfl, leads45 R08_Put R11_Put hS _ _ x h⟩
def R11_Datagram : api_Tuple → (List UInt8) → Option ((List UInt8) × Int) := R11_DatagramF R08_Put R11_Put
theorem lift45 : SumOK Try.prog 45 (s45 R11_Datagram) := ok45 R08_Put R11_Put (SumsOK.of_tab ⟨lift17, lift105, trivial⟩)
end Go.Vm.Code
namespace Go.Vm.Code
open Go Go.Vm
theorem A4.addrOK {a : api_Addr} (h : A4 a) : AddrOK a := ⟨⟨h.1, h.2.1⟩, h.2.2.1, h.2.2.2⟩
def h6of (t : api_Tuple) : ipsix_Head := ⟨0, 0, t.Proto, 64, t.Src, t.Dst⟩
def h5of (t : api_Tuple) : ipfour_Head := ⟨0, 0, true, 64, t.Proto, t.Src, t.Dst, []⟩
def raw11 (t : api_Tuple) (b : List UInt8) : List UInt8 × Int := cond t.Src.V6 (put6 (h6of t) b) (put5 (h5of t) b)
def put11 (t : api_Tuple) (b : List UInt8) : List UInt8 × Int :=
  if t.Src.V6 ≠ t.Dst.V6 ∨ aok t.Src = false ∨ aok t.Dst = false ∨ (t.Proto ≠ 6 ∧ t.Proto ≠ 17) then ([], 1) else
    if (raw11 t b).2 = 0 ∧ 9000 < (raw11 t b).1.length then ([], 5) else raw11 t b
theorem fin11 (r : List UInt8 × Int) : (cond (r.2 == 0) (cond (decide ((r.1.length : Int) > 9000)) (some (([], 5) : List UInt8 × Int)) (some (r.1, r.2))) (some (r.1, r.2))) = some (if r.2 = 0 ∧ 9000 < r.1.length then ([], 5) else r) := by
  by_cases h : r.2 = 0
  · rw [show (r.2 == 0) = true by simpa using h, cond_true]
    by_cases h2 : 9000 < r.1.length
    · rw [cond_p (by omega), if_pos ⟨h, h2⟩]
    · rw [cond_n (by omega), if_neg (fun x => h2 x.2)]
  · rw [show (r.2 == 0) = false by simpa using h, cond_false, if_neg (fun x => h x.1)]
theorem r11put_eq {t : api_Tuple} {b : List UInt8} (h1 : A4 t.Src) (h2 : A4 t.Dst) (hb : b.length < 2 ^ 20) : R11_Put t b = some (put11 t b) := by
  unfold R11_Put R11_PutF put11
  by_cases g1 : t.Src.V6 = t.Dst.V6
  · rw [show (!(t.Src.V6 == t.Dst.V6)) = false by simp [g1], cond_false, a4Right_eq, a4Right_eq, Option.bind_some, Option.bind_some]
    cases g2 : aok t.Src
    · rw [if_pos (.inr (.inl rfl))]; rfl
    cases g3 : aok t.Dst
    · rw [if_pos (.inr (.inr (.inl rfl)))]; rfl
    rw [Bool.not_true, cond_false, cond_false, rput6_eq (h := ⟨0, 0, t.Proto, 64, t.Src, t.Dst⟩) h1.addrOK h2.addrOK (by omega), rp5_eq (h := ⟨0, 0, true, 64, t.Proto, t.Src, t.Dst, []⟩) h1 h2 (by omega) (by simp)]
    simp only [Option.bind_some, fin11]
    by_cases g4 : t.Proto = 6
    · rw [show (t.Proto != 6) = false by simpa using g4, cond_false, if_neg (show ¬ (t.Src.V6 ≠ t.Dst.V6 ∨ true = false ∨ true = false ∨ (t.Proto ≠ 6 ∧ t.Proto ≠ 17)) from fun h => h.elim (fun x => x g1) fun h => h.elim (fun x => by cases x) fun h => h.elim (fun x => by cases x) fun x => x.1 g4)]
      unfold raw11 h5of h6of
      cases t.Src.V6 <;> rfl
    · rw [show (t.Proto != 6) = true by simpa using g4, cond_true]
      by_cases g5 : t.Proto = 17
      · rw [show (t.Proto != 17) = false by simpa using g5, cond_false, if_neg (show ¬ (t.Src.V6 ≠ t.Dst.V6 ∨ true = false ∨ true = false ∨ (t.Proto ≠ 6 ∧ t.Proto ≠ 17)) from fun h => h.elim (fun x => x g1) fun h => h.elim (fun x => by cases x) fun h => h.elim (fun x => by cases x) fun x => x.2 g5)]
        unfold raw11 h5of h6of
        cases t.Src.V6 <;> rfl
      · rw [show (t.Proto != 17) = true by simpa using g5, cond_true, if_pos (.inr (.inr (.inr ⟨g4, g5⟩)))]
  · rw [show (!(t.Src.V6 == t.Dst.V6)) = true by simp [g1], cond_true, if_pos (.inl g1)]
def seg11 (t : api_Tuple) (flags : Int) (o l : List UInt8) : List UInt8 × Int :=
  if t.Proto ≠ 6 then ([], 1) else if (put7 ⟨t.SPort, t.DPort, 0, 0, flags, 65535, 0, o⟩ t.Src t.Dst l).2 ≠ 0 then ([], (put7 ⟨t.SPort, t.DPort, 0, 0, flags, 65535, 0, o⟩ t.Src t.Dst l).2) else put11 t (put7 ⟨t.SPort, t.DPort, 0, 0, flags, 65535, 0, o⟩ t.Src t.Dst l).1
def dat11 (t : api_Tuple) (l : List UInt8) : List UInt8 × Int :=
  if t.Proto ≠ 17 then ([], 1) else if (put8 ⟨t.SPort, t.DPort⟩ t.Src t.Dst l).2 ≠ 0 then ([], (put8 ⟨t.SPort, t.DPort⟩ t.Src t.Dst l).2) else put11 t (put8 ⟨t.SPort, t.DPort⟩ t.Src t.Dst l).1
theorem put7_len (h : tcp_Head) (src dst : api_Addr) (l : List UInt8) : (put7 h src dst l).1.length ≤ 20 + h.Options.length + l.length := by
  unfold put7
  split
  · simp
  split
  · simp
  split
  · simp
  · simp only [List.length_append, hc7_len]; omega
theorem put8_len (h : udp_Head) (src dst : api_Addr) (l : List UInt8) : (put8 h src dst l).1.length ≤ 34 + l.length := by
  unfold put8
  split
  · simp
  split
  · simp
  split
  · simp
  · have := u8_len (h := h) (l := l)
    have := setS_len (u8 h l) 6 2 (ck8 (pseu src dst 17 (8 + l.length)) (u8 h l))
    simp only []; omega
theorem r11seg_eq {t : api_Tuple} {flags : Int} {o l : List UInt8} (h1 : A4 t.Src) (h2 : A4 t.Dst) (ho : o.length < 2 ^ 18) (hl : l.length < 2 ^ 18) : R11_Segment t flags o l = some (seg11 t flags o l) := by
  unfold R11_Segment R11_SegmentF seg11
  by_cases g : t.Proto = 6
  · have hw : W7 ⟨t.SPort, t.DPort, 0, 0, flags, 65535, 0, o⟩ := ⟨⟨by simp only []; omega, by simp only []; omega⟩, by simp only []; omega, by simp only []; omega⟩
    have hlen := put7_len ⟨t.SPort, t.DPort, 0, 0, flags, 65535, 0, o⟩ t.Src t.Dst l
    simp only at hlen
    rw [show (t.Proto != 6) = false by simpa using g, cond_false, r7put_eq hw h1 h2 (by omega) (by simp only []; omega), Option.bind_some, if_neg (by simpa using g)]
    by_cases g2 : (put7 ⟨t.SPort, t.DPort, 0, 0, flags, 65535, 0, o⟩ t.Src t.Dst l).2 = 0
    · rw [show ((put7 ⟨t.SPort, t.DPort, 0, 0, flags, 65535, 0, o⟩ t.Src t.Dst l).2 != 0) = false by simpa using g2, cond_false, if_neg (by simpa using g2), r11put_eq h1 h2 (by omega)]; rfl
    · rw [show ((put7 ⟨t.SPort, t.DPort, 0, 0, flags, 65535, 0, o⟩ t.Src t.Dst l).2 != 0) = true by simpa using g2, cond_true, if_pos g2]
  · rw [show (t.Proto != 6) = true by simpa using g, cond_true, if_pos g]
theorem r11dat_eq {t : api_Tuple} {l : List UInt8} (h1 : A4 t.Src) (h2 : A4 t.Dst) (hl : l.length < 2 ^ 18) : R11_Datagram t l = some (dat11 t l) := by
  unfold R11_Datagram R11_DatagramF dat11
  by_cases g : t.Proto = 17
  · have hlen := put8_len ⟨t.SPort, t.DPort⟩ t.Src t.Dst l
    rw [show (t.Proto != 17) = false by simpa using g, cond_false, u8put_eq h1 h2 (by omega), Option.bind_some, if_neg (by simpa using g)]
    by_cases g2 : (put8 ⟨t.SPort, t.DPort⟩ t.Src t.Dst l).2 = 0
    · rw [show ((put8 ⟨t.SPort, t.DPort⟩ t.Src t.Dst l).2 != 0) = false by simpa using g2, cond_false, if_neg (by simpa using g2), r11put_eq h1 h2 (by omega)]; rfl
    · rw [show ((put8 ⟨t.SPort, t.DPort⟩ t.Src t.Dst l).2 != 0) = true by simpa using g2, cond_true, if_pos g2]
  · rw [show (t.Proto != 17) = true by simpa using g, cond_true, if_pos g]
theorem put11_ok {t : api_Tuple} {b : List UInt8} (h : (put11 t b).2 = 0) : t.Src.V6 = t.Dst.V6 ∧ aok t.Src = true ∧ aok t.Dst = true ∧ (t.Proto = 6 ∨ t.Proto = 17) ∧ (put11 t b).1.length ≤ 9000 ∧
    ((t.Src.V6 = true ∧ H6 (h6of t) ∧ b.length ≤ 65535 ∧ put11 t b = (headB (h6of t) b.length ++ b, 0)) ∨ (t.Src.V6 = false ∧ H5 (h5of t) = true ∧ 20 + b.length ≤ 65535 ∧ put11 t b = (hc5 (h5of t) (20 + b.length) (ck5 (h5of t) (20 + b.length)) ++ b, 0))) := by
  unfold put11 at h ⊢
  by_cases g : t.Src.V6 ≠ t.Dst.V6 ∨ aok t.Src = false ∨ aok t.Dst = false ∨ (t.Proto ≠ 6 ∧ t.Proto ≠ 17)
  · rw [if_pos g] at h; exact absurd h (by decide)
  rw [if_neg g] at h ⊢
  by_cases g2 : (raw11 t b).2 = 0 ∧ 9000 < (raw11 t b).1.length
  · rw [if_pos g2] at h; exact absurd h (by decide)
  rw [if_neg g2] at h ⊢
  have hlen : (raw11 t b).1.length ≤ 9000 := by
    rcases Nat.lt_or_ge 9000 (raw11 t b).1.length with x | x
    · exact absurd ⟨h, x⟩ g2
    · exact x
  have e1 : t.Src.V6 = t.Dst.V6 := Decidable.byContradiction fun x => g (.inl x)
  have e2 : aok t.Src = true := by cases x : aok t.Src; · exact absurd (.inr (.inl x)) g
                                   · rfl
  have e3 : aok t.Dst = true := by cases x : aok t.Dst; · exact absurd (.inr (.inr (.inl x))) g
                                   · rfl
  have e4 : t.Proto = 6 ∨ t.Proto = 17 := by
    rcases Decidable.em (t.Proto = 6) with x | x
    · exact .inl x
    · exact .inr (Decidable.byContradiction fun y => g (.inr (.inr (.inr ⟨x, y⟩))))
  refine ⟨e1, e2, e3, e4, hlen, ?_⟩
  unfold raw11 at h ⊢
  cases hv : t.Src.V6
  · right
    rw [hv, cond_false] at h
    rw [cond_false]
    unfold put5 at h ⊢
    cases hh : H5 (h5of t)
    · rw [if_pos hh] at h; exact absurd h (by decide)
    rw [if_neg (by rw [hh]; decide)] at h
    rw [if_neg (by decide)]
    by_cases hl : 65535 - (20 + ((h5of t).Options.length : Int)) < b.length
    · rw [if_pos hl] at h; exact absurd h (by decide)
    have ho : (h5of t).Options.length = 0 := rfl
    rw [if_neg hl]
    refine ⟨rfl, rfl, by omega, ?_⟩
    rw [show (20 + ((h5of t).Options.length : Int) + b.length) = ((20 + b.length : Nat) : Int) by omega, hd5_hc hv (by rw [← hv]; exact e1.symm), set_hc]
    have : (65535 - ((norm (wsum (hc5 (h5of t) (20 + b.length) 0)) : Nat) : Int)).toNat = ck5 (h5of t) (20 + b.length) := by
      have := norm_le (wsum (hc5 (h5of t) (20 + b.length) 0))
      unfold ck5; omega
    rw [this]
  · left
    rw [hv, cond_true] at h
    rw [cond_true]
    unfold put6 at h ⊢
    by_cases hh : H6 (h6of t)
    · rw [if_neg (by simpa using hh)] at h ⊢
      by_cases hl : b.length > 65535
      · rw [if_pos hl] at h; exact absurd h (by decide)
      rw [if_neg hl]
      exact ⟨rfl, hh, by omega, rfl⟩
    · rw [if_pos hh] at h; exact absurd h (by decide)
end Go.Vm.Code
namespace Go.Vm.Code
open Go Go.Vm Go.Proofs
set_option maxRecDepth 100000
set_option maxHeartbeats 4000000
set_option linter.unusedVariables false
def addr_GetF (octet_Get : (List UInt8) → Int → Int → Option (Int × Bool)) (s : List UInt8) : Option (api_Addr × Bool) :=
  cond ((s.length : Int) == 4)
    (
    (octet_Get s 0 4).bind fun xg =>
    some ((api_Addr.mk false 0 xg.1, true)))
    (
    cond ((s.length : Int) == 16)
      (
      (octet_Get s 0 8).bind fun xg1 =>
      (octet_Get s 8 8).bind fun xg2 =>
      some ((api_Addr.mk true xg1.1 xg2.1, true)))
      (
      some ((api_Addr.mk false 0 0, false))))
def rx102 (x : api_Addr × Bool) : SRes := ⟨.tuple ⟨[.agg ⟨[.bool x.1.V6, .int .u64 x.1.Hi, .int .u64 x.1.Lo]⟩, .bool x.2]⟩, [], []⟩
def r102 (g : (List UInt8) → Option (api_Addr × Bool)) : Dec := dV asS fun (y0 : List UInt8) => dEnd (ofG (g y0) rx102)
theorem r102_c {g : (List UInt8) → Option (api_Addr × Bool)} {y0 : List UInt8} {x : api_Addr × Bool} (hx : g y0 = some x) : r102 g [.string ⟨⟨y0⟩⟩] [] = some (rx102 x) := (dV_eq (asS_c)).trans (ofG_eq hx)
def s102 (g : (List UInt8) → Option (api_Addr × Bool)) : Summ := ⟨[.v], r102 g⟩
theorem r102_eq {g : (List UInt8) → Option (api_Addr × Bool)} {y0 : List UInt8} {x : api_Addr × Bool} (hx : g y0 = some x) : (s102 g).run [.string ⟨⟨y0⟩⟩] [] = some (rx102 x) := r102_c hx
abbrev sums102 (octet_Get : (List UInt8) → Int → Int → Option (Int × Bool)) : List (Nat × Summ) := [(101, s101 octet_Get)]
theorem leads102 (octet_Get : (List UInt8) → Int → Int → Option (Int × Bool)) (hS : SumsOK Try.prog (aget (sums102 octet_Get))) (s : List UInt8) (res : api_Addr × Bool) (h : addr_GetF octet_Get s = some res) :
    Leads Try.prog 102 0 ⟨⟨102, 35, [(0, .string ⟨⟨s⟩⟩)], [.code k102_25], [], false, none⟩, [], [], 0⟩ (fun v H _ => Res 0 (rx102 res) v H) := by
  unfold addr_GetF at h
  refine ev_ok tab_ok hS true 3000 ?_
  conv => whnf
  refine br.h h ?_ ?_ ?_
  · rfl
  · clear h; intro hb h; conv => whnf
    replace h := obind.elim h; obtain ⟨xg, hy, h⟩ := h
    refine sumK.q rfl rfl (r101_eq hy) rfl rfl rfl ?_
    conv => whnf
    all_goals (cases h; exact Res.z rfl rfl rfl)
  clear h; intro hb h; conv => whnf
  refine br.h2 h ?_ ?_ ?_
  · rfl
  · clear h; intro hb h; conv => whnf
    all_goals (cases h; exact Res.z rfl rfl rfl)
  clear h; intro hb h; conv => whnf
  replace h := obind.elim h; obtain ⟨xg1, hy, h⟩ := h
  refine sumK.q rfl rfl (r101_eq hy) rfl rfl rfl ?_
  conv => whnf
  replace h := obind.elim h; obtain ⟨xg2, hy, h⟩ := h
  refine sumK.q rfl rfl (r101_eq hy) rfl rfl rfl ?_
  conv => whnf
  all_goals (cases h; exact Res.z rfl rfl rfl)
theorem ok102 (octet_Get : (List UInt8) → Int → Int → Option (Int × Bool)) (hS : SumsOK Try.prog (aget (sums102 octet_Get))) : SumOK Try.prog 102 (s102 (addr_GetF octet_Get)) := by
  refine SumOK.of_leads tab_ok (fun ar os r ha hr => ?_) ⟨Try.f102, rfl, by decide, rfl⟩
  replace hr : r102 (addr_GetF octet_Get) ar (conts os) = some r := hr
  unfold r102 at hr
  generalize hc : conts os = C at hr
  replace hr := dV.elim hr; obtain ⟨v0, l1, y0, rfl, e0, hr⟩ := hr; obtain rfl := asS_eq _ _ e0
  replace hr := dFin hr; obtain ⟨rfl, rfl, x, h, rfl⟩ := hr
  obtain rfl := kinds_nil hc
  exact ⟨_, rfl, leads102 octet_Get hS _ x h⟩
def addr_Get : (List UInt8) → Option (api_Addr × Bool) := addr_GetF octet_Get
theorem lift102 : SumOK Try.prog 102 (s102 addr_Get) := ok102 octet_Get (SumsOK.of_tab ⟨lift101, trivial⟩)
end Go.Vm.Code
namespace Go.Vm.Code
open Go Go.Vm
theorem addr_Get16 {s : List UInt8} (h : s.length = 16) : addr_Get s = some (addrG s, true) := by
  unfold addr_Get addr_GetF
  have e1 : ((s.length : Int) == 4) = false := by rw [h]; rfl
  have e2 : ((s.length : Int) == 16) = true := by rw [h]; rfl
  have e3 : (s.drop 8).take 8 = s.drop 8 := List.take_of_length_le (by simp; omega)
  rw [e1, e2, cond_false, cond_true, octet_Get_eq (by omega), octet_Get_eq (by omega), getS_at (p := 0) (k := 8) (by omega) (by omega) (by omega) (by omega), getS_at (p := 8) (k := 8) (by omega) (by omega) (by omega) (by omega)]
  show some ((⟨true, ((valL ((s.drop 0).take 8) : Nat) : Int), ((valL ((s.drop 8).take 8) : Nat) : Int)⟩ : api_Addr), true) = _
  rw [e3]; rfl
def adr4 (s : List UInt8) (p : Nat) : api_Addr := ⟨false, 0, vK s p 4⟩
def adr6 (s : List UInt8) (p : Nat) : api_Addr := ⟨true, vK s p 8, vK s (p + 8) 8⟩
theorem aget4 {s : List UInt8} (h : s.length = 4) : addr_Get s = some (⟨false, 0, vK s 0 4⟩, true) := by
  unfold addr_Get addr_GetF
  rw [show ((s.length : Int) == 4) = true by rw [h]; rfl, cond_true, octet_Get_eq (by omega), getS_at (by omega) (by omega) (by omega) (by omega)]; rfl
theorem vK_sub2 (s : List UInt8) (p n q k : Nat) (h : q + k ≤ n) : vK ((s.drop p).take n) q k = vK s (p + q) k := by
  unfold vK
  rw [List.drop_take, List.drop_drop, List.take_take, Nat.min_eq_left (by omega)]
theorem aget16 {s : List UInt8} (p : Nat) (h : p + 16 ≤ s.length) : addr_Get ((s.drop p).take 16) = some (adr6 s p, true) := by
  rw [addr_Get16 (by simp; omega)]
  have e1 := vK_sub2 s p 16 0 8 (by omega)
  have e2 := vK_sub2 s p 16 8 8 (by omega)
  unfold vK at e1 e2
  rw [List.take_of_length_le (l := ((s.drop p).take 16).drop 8) (by simp; omega)] at e2
  rw [List.drop_zero] at e1
  unfold addrG adr6 vK
  rw [e1, e2]; rfl
end Go.Vm.Code
namespace Go.Vm.Code
open Go Go.Vm Go.Proofs
set_option maxRecDepth 100000
set_option maxHeartbeats 4000000
set_option linter.unusedVariables false
def icmp_quoteF (check_Right : (List UInt8) → Option Bool) (octet_New : (List UInt8) → Option octet_Reader) (octet_Reader_Num : octet_Reader → Int → Option (Int × octet_Reader)) (s : List UInt8) : Option (Int × (List UInt8) × (List UInt8) × Bool) :=
  (octet_New s).bind fun n =>
  (octet_Reader_Num n 1).bind fun n1 =>
  cond ((n1.1.fdiv (2 ^ 4)) == 4)
    (
    let t := decide ((wI .i64 ((andI .i64 n1.1 15) * 4)) < 20)
    cond (t)
      (
      some ((0, [], [], false)))
      (
      let t1 := decide ((wI .i64 ((andI .i64 n1.1 15) * 4)) > (s.length : Int))
      cond (t1)
        (
        some ((0, [], [], false)))
        (
        oreq (decide ((0 : Int) ≤ (wI .i64 ((andI .i64 n1.1 15) * 4)) ∧ (wI .i64 ((andI .i64 n1.1 15) * 4)) ≤ (s.length : Int))) <|
        let t2 := s.take (wI .i64 ((andI .i64 n1.1 15) * 4)).toNat
        (check_Right t2).bind fun xr =>
        cond (!xr)
          (
          some ((0, [], [], false)))
          (
          (s[9]?).bind fun (b : UInt8) =>
          oreq (decide ((0 : Int) ≤ (20 : Int) ∧ (20 : Int) ≤ (s.length : Int) ∧ (0 : Int) ≤ (12 : Int) ∧ (12 : Int) ≤ (20 : Int))) <|
          oreq (decide ((0 : Int) ≤ (wI .i64 ((andI .i64 n1.1 15) * 4)) ∧ (wI .i64 ((andI .i64 n1.1 15) * 4)) ≤ (s.length : Int))) <|
          let t3 := (s.drop (wI .i64 ((andI .i64 n1.1 15) * 4)).toNat).take (s.length - (wI .i64 ((andI .i64 n1.1 15) * 4)).toNat)
          some ((wI .i64 (b.toNat : Int), (s.drop 12).take 8, t3, true))))))
    (
    cond ((n1.1.fdiv (2 ^ 4)) == 6)
      (
      cond (decide ((s.length : Int) < 40))
        (
        some ((0, [], [], false)))
        (
        (s[6]?).bind fun (b1 : UInt8) =>
        oreq (decide ((0 : Int) ≤ (40 : Int) ∧ (40 : Int) ≤ (s.length : Int) ∧ (0 : Int) ≤ (8 : Int) ∧ (8 : Int) ≤ (40 : Int))) <|
        oreq (decide ((0 : Int) ≤ (40 : Int) ∧ (40 : Int) ≤ (s.length : Int))) <|
        some ((wI .i64 (b1.toNat : Int), (s.drop 8).take 32, (s.drop 40).take (s.length - 40), true))))
      (
      some ((0, [], [], false))))
def rx100 (x : Int × (List UInt8) × (List UInt8) × Bool) : SRes := ⟨.tuple ⟨[.int .i64 x.1, .string ⟨⟨x.2.1⟩⟩, .string ⟨⟨x.2.2.1⟩⟩, .bool x.2.2.2]⟩, [], []⟩
def r100 (g : (List UInt8) → Option (Int × (List UInt8) × (List UInt8) × Bool)) : Dec := dV asS fun (y0 : List UInt8) => dEnd (ofG (g y0) rx100)
theorem r100_c {g : (List UInt8) → Option (Int × (List UInt8) × (List UInt8) × Bool)} {y0 : List UInt8} {x : Int × (List UInt8) × (List UInt8) × Bool} (hx : g y0 = some x) : r100 g [.string ⟨⟨y0⟩⟩] [] = some (rx100 x) := (dV_eq (asS_c)).trans (ofG_eq hx)
def s100 (g : (List UInt8) → Option (Int × (List UInt8) × (List UInt8) × Bool)) : Summ := ⟨[.v], r100 g⟩
theorem r100_eq {g : (List UInt8) → Option (Int × (List UInt8) × (List UInt8) × Bool)} {y0 : List UInt8} {x : Int × (List UInt8) × (List UInt8) × Bool} (hx : g y0 = some x) : (s100 g).run [.string ⟨⟨y0⟩⟩] [] = some (rx100 x) := r100_c hx
abbrev sums100 (check_Right : (List UInt8) → Option Bool) (octet_New : (List UInt8) → Option octet_Reader) (octet_Reader_Num : octet_Reader → Int → Option (Int × octet_Reader)) : List (Nat × Summ) := [(73, s73 check_Right), (70, s70 octet_New), (71, s71 octet_Reader_Num)]
theorem leads100 (check_Right : (List UInt8) → Option Bool) (octet_New : (List UInt8) → Option octet_Reader) (octet_Reader_Num : octet_Reader → Int → Option (Int × octet_Reader)) (hS : SumsOK Try.prog (aget (sums100 check_Right octet_New octet_Reader_Num))) (s : List UInt8) (res : Int × (List UInt8) × (List UInt8) × Bool) (h : icmp_quoteF check_Right octet_New octet_Reader_Num s = some res) :
    Leads Try.prog 100 0 ⟨⟨100, 58, [(0, .string ⟨⟨s⟩⟩)], [.code k100_37], [], false, none⟩, [], [], 0⟩ (fun v H _ => Res 0 (rx100 res) v H) := by
  unfold icmp_quoteF at h
  refine ev_ok tab_ok hS true 3000 ?_
  conv => whnf
  replace h := obind.elim h; obtain ⟨n, hy, h⟩ := h
  refine sumK.introF [0] (sumRun_of (aqs := [.string ⟨⟨s⟩⟩]) (ws := []) (n := 1) (m := 0) (t' := 1) (ra_cons rfl rfl ra_nil) rfl (by rfl) (r70_eq hy) rfl rfl rfl rfl wb_nil (an_cons (rfl) an_nil) rfl) ?_
  conv => whnf
  replace h := obind.elim h; obtain ⟨n1, hy, h⟩ := h
  refine sumK.introF [0] (sumRun_of (aqs := [.pointer (some ⟨0, 0, none⟩), .int .i64 1]) (ws := [.win 0 0 3 true]) (n := 0) (m := 0) (t' := 1) (ra_cons rfl rfl (ra_cons rfl rfl ra_nil)) rfl (by rfl) (r71_eq hy) rfl rfl rfl rfl (wb_win rfl rfl rfl ⟨rfl, Nat.le_of_ble_eq_true rfl⟩ rfl rfl wb_nil) an_nil rfl) ?_
  conv => whnf
  refine br.h2 h ?_ ?_ ?_
  · rfl
  · clear h; intro hb h; conv => whnf
    refine br.h2 h ?_ ?_ ?_
    · rfl
    · clear h; intro hb h; conv => whnf
      all_goals (cases h; exact Res.z rfl rfl rfl)
    clear h; intro hb h; conv => whnf
    refine br.h h ?_ ?_ ?_
    · rfl
    · clear h; intro hb h; conv => whnf
      all_goals (cases h; exact Res.z rfl rfl rfl)
    clear h; intro hb h; conv => whnf
    replace h := obind.elim h; obtain ⟨b1, hy, h⟩ := h
    refine rdS.intro hy ?_
    conv => whnf
    replace h := oreq.elim h; obtain ⟨hb, h⟩ := h
    first | (refine req.intro hb ?_; conv => whnf) | skip
    replace h := oreq.elim h; obtain ⟨hb, h⟩ := h
    first | (refine req.intro hb ?_; conv => whnf) | skip
    all_goals (cases h; exact Res.z rfl rfl rfl)
  clear h; intro hb h; conv => whnf
  let t : Bool := decide ((wI .i64 ((andI .i64 n1.1 15) * 4)) < 20)
  refine br.h h ?_ ?_ ?_
  · rfl
  · clear h; intro hb h; conv => whnf
    all_goals (cases h; exact Res.z rfl rfl rfl)
  clear h; intro hb h; conv => whnf
  let t1 : Bool := decide ((wI .i64 ((andI .i64 n1.1 15) * 4)) > (s.length : Int))
  refine br.h h ?_ ?_ ?_
  · rfl
  · clear h; intro hb h; conv => whnf
    all_goals (cases h; exact Res.z rfl rfl rfl)
  clear h; intro hb h; conv => whnf
  replace h := oreq.elim h; obtain ⟨hb, h⟩ := h
  first | (refine req.intro hb ?_; conv => whnf) | skip
  let t2 : List UInt8 := s.take (wI .i64 ((andI .i64 n1.1 15) * 4)).toNat
  replace h := obind.elim h; obtain ⟨xr, hy, h⟩ := h
  refine sumK.q rfl rfl (r73_eq hy) rfl rfl rfl ?_
  conv => whnf
  refine br.h h ?_ ?_ ?_
  · rfl
  · clear h; intro hb h; conv => whnf
    all_goals (cases h; exact Res.z rfl rfl rfl)
  clear h; intro hb h; conv => whnf
  replace h := obind.elim h; obtain ⟨b, hy, h⟩ := h
  refine rdS.intro hy ?_
  conv => whnf
  replace h := oreq.elim h; obtain ⟨hb, h⟩ := h
  first | (refine req.intro hb ?_; conv => whnf) | skip
  replace h := oreq.elim h; obtain ⟨hb, h⟩ := h
  first | (refine req.intro hb ?_; conv => whnf) | skip
  let t3 : List UInt8 := (s.drop (wI .i64 ((andI .i64 n1.1 15) * 4)).toNat).take (s.length - (wI .i64 ((andI .i64 n1.1 15) * 4)).toNat)
  all_goals (cases h; exact Res.z rfl rfl rfl)
theorem ok100 (check_Right : (List UInt8) → Option Bool) (octet_New : (List UInt8) → Option octet_Reader) (octet_Reader_Num : octet_Reader → Int → Option (Int × octet_Reader)) (hS : SumsOK Try.prog (aget (sums100 check_Right octet_New octet_Reader_Num))) : SumOK Try.prog 100 (s100 (icmp_quoteF check_Right octet_New octet_Reader_Num)) := by
  refine SumOK.of_leads tab_ok (fun ar os r ha hr => ?_) ⟨Try.f100, rfl, by decide, rfl⟩
  replace hr : r100 (icmp_quoteF check_Right octet_New octet_Reader_Num) ar (conts os) = some r := hr
  unfold r100 at hr
  generalize hc : conts os = C at hr
  replace hr := dV.elim hr; obtain ⟨v0, l1, y0, rfl, e0, hr⟩ := hr; obtain rfl := asS_eq _ _ e0
  replace hr := dFin hr; obtain ⟨rfl, rfl, x, h, rfl⟩ := hr
  obtain rfl := kinds_nil hc
  exact ⟨_, rfl, leads100 check_Right octet_New octet_Reader_Num hS _ x h⟩
def icmp_quote : (List UInt8) → Option (Int × (List UInt8) × (List UInt8) × Bool) := icmp_quoteF check_Right octet_New octet_Reader_Num
theorem lift100 : SumOK Try.prog 100 (s100 icmp_quote) := ok100 check_Right octet_New octet_Reader_Num (SumsOK.of_tab ⟨lift73, lift70, lift71, trivial⟩)
def icmp_QuotedF (addr_Get : (List UInt8) → Option (api_Addr × Bool)) (icmp_quote : (List UInt8) → Option (Int × (List UInt8) × (List UInt8) × Bool)) (octet_Get : (List UInt8) → Int → Int → Option (Int × Bool)) (s : List UInt8) : Option (api_Tuple × Bool) :=
  (icmp_quote s).bind fun q =>
  (octet_Get q.2.2.1 0 4).bind fun xg =>
  cond (!q.2.2.2)
    (
    some ((api_Tuple.mk 0 (api_Addr.mk false 0 0) (api_Addr.mk false 0 0) 0 0, false)))
    (
    cond (!xg.2)
      (
      some ((api_Tuple.mk 0 (api_Addr.mk false 0 0) (api_Addr.mk false 0 0) 0 0, false)))
      (
      cond (q.1 != 6)
        (
        cond (q.1 != 17)
          (
          some ((api_Tuple.mk 0 (api_Addr.mk false 0 0) (api_Addr.mk false 0 0) 0 0, false)))
          (
          oreq (decide ((0 : Int) ≤ (wI .i64 ((q.2.1.length : Int).tdiv 2)) ∧ (wI .i64 ((q.2.1.length : Int).tdiv 2)) ≤ (q.2.1.length : Int))) <|
          let t := q.2.1.take (wI .i64 ((q.2.1.length : Int).tdiv 2)).toNat
          (addr_Get t).bind fun xg1 =>
          oreq (decide ((0 : Int) ≤ (wI .i64 ((q.2.1.length : Int).tdiv 2)) ∧ (wI .i64 ((q.2.1.length : Int).tdiv 2)) ≤ (q.2.1.length : Int))) <|
          let t1 := (q.2.1.drop (wI .i64 ((q.2.1.length : Int).tdiv 2)).toNat).take (q.2.1.length - (wI .i64 ((q.2.1.length : Int).tdiv 2)).toNat)
          (addr_Get t1).bind fun xg2 =>
          some ((api_Tuple.mk q.1 xg1.1 xg2.1 (wI .i64 (xg.1.fdiv (2 ^ 16))) (wI .i64 (andI .u64 xg.1 65535)), true))))
        (
        oreq (decide ((0 : Int) ≤ (wI .i64 ((q.2.1.length : Int).tdiv 2)) ∧ (wI .i64 ((q.2.1.length : Int).tdiv 2)) ≤ (q.2.1.length : Int))) <|
        let t2 := q.2.1.take (wI .i64 ((q.2.1.length : Int).tdiv 2)).toNat
        (addr_Get t2).bind fun xg3 =>
        oreq (decide ((0 : Int) ≤ (wI .i64 ((q.2.1.length : Int).tdiv 2)) ∧ (wI .i64 ((q.2.1.length : Int).tdiv 2)) ≤ (q.2.1.length : Int))) <|
        let t3 := (q.2.1.drop (wI .i64 ((q.2.1.length : Int).tdiv 2)).toNat).take (q.2.1.length - (wI .i64 ((q.2.1.length : Int).tdiv 2)).toNat)
        (addr_Get t3).bind fun xg4 =>
        some ((api_Tuple.mk q.1 xg3.1 xg4.1 (wI .i64 (xg.1.fdiv (2 ^ 16))) (wI .i64 (andI .u64 xg.1 65535)), true)))))
def rx39 (x : api_Tuple × Bool) : SRes := ⟨.tuple ⟨[.agg ⟨[.int .i64 x.1.Proto, .bool x.1.Src.V6, .int .u64 x.1.Src.Hi, .int .u64 x.1.Src.Lo, .bool x.1.Dst.V6, .int .u64 x.1.Dst.Hi, .int .u64 x.1.Dst.Lo, .int .i64 x.1.SPort, .int .i64 x.1.DPort]⟩, .bool x.2]⟩, [], []⟩
def r39 (g : (List UInt8) → Option (api_Tuple × Bool)) : Dec := dV asS fun (y0 : List UInt8) => dEnd (ofG (g y0) rx39)
theorem r39_c {g : (List UInt8) → Option (api_Tuple × Bool)} {y0 : List UInt8} {x : api_Tuple × Bool} (hx : g y0 = some x) : r39 g [.string ⟨⟨y0⟩⟩] [] = some (rx39 x) := (dV_eq (asS_c)).trans (ofG_eq hx)
def s39 (g : (List UInt8) → Option (api_Tuple × Bool)) : Summ := ⟨[.v], r39 g⟩
theorem r39_eq {g : (List UInt8) → Option (api_Tuple × Bool)} {y0 : List UInt8} {x : api_Tuple × Bool} (hx : g y0 = some x) : (s39 g).run [.string ⟨⟨y0⟩⟩] [] = some (rx39 x) := r39_c hx
abbrev sums39 (addr_Get : (List UInt8) → Option (api_Addr × Bool)) (icmp_quote : (List UInt8) → Option (Int × (List UInt8) × (List UInt8) × Bool)) (octet_Get : (List UInt8) → Int → Int → Option (Int × Bool)) : List (Nat × Summ) := [(102, s102 addr_Get), (100, s100 icmp_quote), (101, s101 octet_Get)]
theorem leads39 (addr_Get : (List UInt8) → Option (api_Addr × Bool)) (icmp_quote : (List UInt8) → Option (Int × (List UInt8) × (List UInt8) × Bool)) (octet_Get : (List UInt8) → Int → Int → Option (Int × Bool)) (hS : SumsOK Try.prog (aget (sums39 addr_Get icmp_quote octet_Get))) (s : List UInt8) (res : api_Tuple × Bool) (h : icmp_QuotedF addr_Get icmp_quote octet_Get s = some res) :
    Leads Try.prog 39 0 ⟨⟨39, 67, [(0, .string ⟨⟨s⟩⟩)], [.code k39_19], [], false, none⟩, [], [], 0⟩ (fun v H _ => Res 0 (rx39 res) v H) := by
  unfold icmp_QuotedF at h
  refine ev_ok tab_ok hS true 3000 ?_
  conv => whnf
  replace h := obind.elim h; obtain ⟨q, hy, h⟩ := h
  refine sumK.q rfl rfl (r100_eq hy) rfl rfl rfl ?_
  conv => whnf
  replace h := obind.elim h; obtain ⟨xg, hy, h⟩ := h
  refine sumK.q rfl rfl (r101_eq hy) rfl rfl rfl ?_
  conv => whnf
  refine br.h h ?_ ?_ ?_
  · rfl
  · clear h; intro hb h; conv => whnf
    all_goals (cases h; exact Res.z rfl rfl rfl)
  clear h; intro hb h; conv => whnf
  refine br.h h ?_ ?_ ?_
  · rfl
  · clear h; intro hb h; conv => whnf
    all_goals (cases h; exact Res.z rfl rfl rfl)
  clear h; intro hb h; conv => whnf
  refine br.h2 h ?_ ?_ ?_
  · rfl
  · clear h; intro hb h; conv => whnf
    replace h := oreq.elim h; obtain ⟨hb, h⟩ := h
    first | (refine req.intro hb ?_; conv => whnf) | skip
    let t2 : List UInt8 := q.2.1.take (wI .i64 ((q.2.1.length : Int).tdiv 2)).toNat
    replace h := obind.elim h; obtain ⟨xg3, hy, h⟩ := h
    refine sumK.q rfl rfl (r102_eq hy) rfl rfl rfl ?_
    conv => whnf
    replace h := oreq.elim h; obtain ⟨hb, h⟩ := h
    first | (refine req.intro hb ?_; conv => whnf) | skip
    let t3 : List UInt8 := (q.2.1.drop (wI .i64 ((q.2.1.length : Int).tdiv 2)).toNat).take (q.2.1.length - (wI .i64 ((q.2.1.length : Int).tdiv 2)).toNat)
    replace h := obind.elim h; obtain ⟨xg4, hy, h⟩ := h
    refine sumK.q rfl rfl (r102_eq hy) rfl rfl rfl ?_
    conv => whnf
    all_goals (cases h; exact Res.z rfl rfl rfl)
  clear h; intro hb h; conv => whnf
  refine br.h h ?_ ?_ ?_
  · rfl
  · clear h; intro hb h; conv => whnf
    all_goals (cases h; exact Res.z rfl rfl rfl)
  clear h; intro hb h; conv => whnf
  replace h := oreq.elim h; obtain ⟨hb, h⟩ := h
  first | (refine req.intro hb ?_; conv => whnf) | skip
  let t : List UInt8 := q.2.1.take (wI .i64 ((q.2.1.length : Int).tdiv 2)).toNat
  replace h := obind.elim h; obtain ⟨xg1, hy, h⟩ := h
  refine sumK.q rfl rfl (r102_eq hy) rfl rfl rfl ?_
  conv => whnf
  replace h := oreq.elim h; obtain ⟨hb, h⟩ := h
  first | (refine req.intro hb ?_; conv => whnf) | skip
  let t1 : List UInt8 := (q.2.1.drop (wI .i64 ((q.2.1.length : Int).tdiv 2)).toNat).take (q.2.1.length - (wI .i64 ((q.2.1.length : Int).tdiv 2)).toNat)
  replace h := obind.elim h; obtain ⟨xg2, hy, h⟩ := h
  refine sumK.q rfl rfl (r102_eq hy) rfl rfl rfl ?_
  conv => whnf
  all_goals (cases h; exact Res.z rfl rfl rfl)
theorem ok39 (addr_Get : (List UInt8) → Option (api_Addr × Bool)) (icmp_quote : (List UInt8) → Option (Int × (List UInt8) × (List UInt8) × Bool)) (octet_Get : (List UInt8) → Int → Int → Option (Int × Bool)) (hS : SumsOK Try.prog (aget (sums39 addr_Get icmp_quote octet_Get))) : SumOK Try.prog 39 (s39 (icmp_QuotedF addr_Get icmp_quote octet_Get)) := by
  refine SumOK.of_leads tab_ok (fun ar os r ha hr => ?_) ⟨Try.f39, rfl, by decide, rfl⟩
  replace hr : r39 (icmp_QuotedF addr_Get icmp_quote octet_Get) ar (conts os) = some r := hr
  unfold r39 at hr
  generalize hc : conts os = C at hr
  replace hr := dV.elim hr; obtain ⟨v0, l1, y0, rfl, e0, hr⟩ := hr; obtain rfl := asS_eq _ _ e0
  replace hr := dFin hr; obtain ⟨rfl, rfl, x, h, rfl⟩ := hr
  obtain rfl := kinds_nil hc
  exact ⟨_, rfl, leads39 addr_Get icmp_quote octet_Get hS _ x h⟩
def icmp_Quoted : (List UInt8) → Option (api_Tuple × Bool) := icmp_QuotedF addr_Get icmp_quote octet_Get
theorem lift39 : SumOK Try.prog 39 (s39 icmp_Quoted) := ok39 addr_Get icmp_quote octet_Get (SumsOK.of_tab ⟨lift102, lift100, lift101, trivial⟩)
def tuple_BackF (t : api_Tuple) : Option api_Tuple :=
  some (api_Tuple.mk t.Proto t.Dst t.Src t.DPort t.SPort)
def rx103 (x : api_Tuple) : SRes := ⟨.agg ⟨[.int .i64 x.Proto, .bool x.Src.V6, .int .u64 x.Src.Hi, .int .u64 x.Src.Lo, .bool x.Dst.V6, .int .u64 x.Dst.Hi, .int .u64 x.Dst.Lo, .int .i64 x.SPort, .int .i64 x.DPort]⟩, [], []⟩
def r103 (g : api_Tuple → Option api_Tuple) : Dec := dV uvapi_Tuple fun (y0 : api_Tuple) => dEnd (ofG (g y0) rx103)
theorem r103_c {g : api_Tuple → Option api_Tuple} {y0 : api_Tuple} {x : api_Tuple} (hx : g y0 = some x) : r103 g [.agg ⟨[.int .i64 y0.Proto, .bool y0.Src.V6, .int .u64 y0.Src.Hi, .int .u64 y0.Src.Lo, .bool y0.Dst.V6, .int .u64 y0.Dst.Hi, .int .u64 y0.Dst.Lo, .int .i64 y0.SPort, .int .i64 y0.DPort]⟩] [] = some (rx103 x) := (dV_eq (uvapi_Tuple_c _)).trans (ofG_eq hx)
def s103 (g : api_Tuple → Option api_Tuple) : Summ := ⟨[.v], r103 g⟩
theorem r103_eq {g : api_Tuple → Option api_Tuple} {y0 : api_Tuple} {x : api_Tuple} (hx : g y0 = some x) : (s103 g).run [.agg ⟨[.int .i64 y0.Proto, .bool y0.Src.V6, .int .u64 y0.Src.Hi, .int .u64 y0.Src.Lo, .bool y0.Dst.V6, .int .u64 y0.Dst.Hi, .int .u64 y0.Dst.Lo, .int .i64 y0.SPort, .int .i64 y0.DPort]⟩] [] = some (rx103 x) := r103_c hx
abbrev sums103 : List (Nat × Summ) := []
theorem leads103 (hS : SumsOK Try.prog (aget (sums103))) (t : api_Tuple) (res : api_Tuple) (h : tuple_BackF t = some res) :
    Leads Try.prog 103 0 ⟨⟨103, 16, [(0, .agg ⟨[.int .i64 t.Proto, .bool t.Src.V6, .int .u64 t.Src.Hi, .int .u64 t.Src.Lo, .bool t.Dst.V6, .int .u64 t.Dst.Hi, .int .u64 t.Dst.Lo, .int .i64 t.SPort, .int .i64 t.DPort]⟩)], [.code k103_5], [], false, none⟩, [], [], 0⟩ (fun v H _ => Res 0 (rx103 res) v H) := by
  unfold tuple_BackF at h
  refine ev_ok tab_ok hS true 3000 ?_
  conv => whnf
  all_goals (cases h; exact Res.z rfl rfl rfl)
theorem ok103 (hS : SumsOK Try.prog (aget (sums103))) : SumOK Try.prog 103 (s103 (tuple_BackF)) := by
  refine SumOK.of_leads tab_ok (fun ar os r ha hr => ?_) ⟨Try.f103, rfl, by decide, rfl⟩
  replace hr : r103 (tuple_BackF) ar (conts os) = some r := hr
  unfold r103 at hr
  generalize hc : conts os = C at hr
  replace hr := dV.elim hr; obtain ⟨v0, l1, y0, rfl, e0, hr⟩ := hr; obtain rfl := uvapi_Tuple_eq _ _ e0
  replace hr := dFin hr; obtain ⟨rfl, rfl, x, h, rfl⟩ := hr
  obtain rfl := kinds_nil hc
  exact ⟨_, rfl, leads103 hS _ x h⟩
def tuple_Back : api_Tuple → Option api_Tuple := tuple_BackF
theorem lift103 : SumOK Try.prog 103 (s103 tuple_Back) := ok103 (SumsOK.of_tab trivial)
def icmp_AboutF (icmp_Quoted : (List UInt8) → Option (api_Tuple × Bool)) (tuple_Back : api_Tuple → Option api_Tuple) (m : icmp_Message) : Option (api_Tuple × Bool) :=
  (icmp_Quoted m.Quote).bind fun q =>
  cond (!q.2)
    (
    some ((api_Tuple.mk 0 (api_Addr.mk false 0 0) (api_Addr.mk false 0 0) 0 0, false)))
    (
    cond (decide (m.Kind < 1))
      (
      some ((api_Tuple.mk 0 (api_Addr.mk false 0 0) (api_Addr.mk false 0 0) 0 0, false)))
      (
      cond (decide (m.Kind > 3))
        (
        some ((api_Tuple.mk 0 (api_Addr.mk false 0 0) (api_Addr.mk false 0 0) 0 0, false)))
        (
        (tuple_Back q.1).bind fun b =>
        some ((b, true)))))
def rx41 (x : api_Tuple × Bool) : SRes := ⟨.tuple ⟨[.agg ⟨[.int .i64 x.1.Proto, .bool x.1.Src.V6, .int .u64 x.1.Src.Hi, .int .u64 x.1.Src.Lo, .bool x.1.Dst.V6, .int .u64 x.1.Dst.Hi, .int .u64 x.1.Dst.Lo, .int .i64 x.1.SPort, .int .i64 x.1.DPort]⟩, .bool x.2]⟩, [], []⟩
def r41 (g : icmp_Message → Option (api_Tuple × Bool)) : Dec := dV uvicmp_Message fun (y0 : icmp_Message) => dEnd (ofG (g y0) rx41)
theorem r41_c {g : icmp_Message → Option (api_Tuple × Bool)} {y0 : icmp_Message} {x : api_Tuple × Bool} (hx : g y0 = some x) : r41 g [.agg ⟨[.int .i64 y0.Kind, .int .i64 y0.Code, .int .i64 y0.MTU, .string ⟨⟨y0.Quote⟩⟩]⟩] [] = some (rx41 x) := (dV_eq (uvicmp_Message_c _)).trans (ofG_eq hx)
def s41 (g : icmp_Message → Option (api_Tuple × Bool)) : Summ := ⟨[.v], r41 g⟩
theorem r41_eq {g : icmp_Message → Option (api_Tuple × Bool)} {y0 : icmp_Message} {x : api_Tuple × Bool} (hx : g y0 = some x) : (s41 g).run [.agg ⟨[.int .i64 y0.Kind, .int .i64 y0.Code, .int .i64 y0.MTU, .string ⟨⟨y0.Quote⟩⟩]⟩] [] = some (rx41 x) := r41_c hx
abbrev sums41 (icmp_Quoted : (List UInt8) → Option (api_Tuple × Bool)) (tuple_Back : api_Tuple → Option api_Tuple) : List (Nat × Summ) := [(39, s39 icmp_Quoted), (103, s103 tuple_Back)]
theorem leads41 (icmp_Quoted : (List UInt8) → Option (api_Tuple × Bool)) (tuple_Back : api_Tuple → Option api_Tuple) (hS : SumsOK Try.prog (aget (sums41 icmp_Quoted tuple_Back))) (m : icmp_Message) (res : api_Tuple × Bool) (h : icmp_AboutF icmp_Quoted tuple_Back m = some res) :
    Leads Try.prog 41 0 ⟨⟨41, 27, [(0, .agg ⟨[.int .i64 m.Kind, .int .i64 m.Code, .int .i64 m.MTU, .string ⟨⟨m.Quote⟩⟩]⟩)], [.code k41_11], [], false, none⟩, [], [], 0⟩ (fun v H _ => Res 0 (rx41 res) v H) := by
  unfold icmp_AboutF at h
  refine ev_ok tab_ok hS true 3000 ?_
  conv => whnf
  replace h := obind.elim h; obtain ⟨q, hy, h⟩ := h
  refine sumK.q rfl rfl (r39_eq hy) rfl rfl rfl ?_
  conv => whnf
  refine br.h h ?_ ?_ ?_
  · rfl
  · clear h; intro hb h; conv => whnf
    all_goals (cases h; exact Res.z rfl rfl rfl)
  clear h; intro hb h; conv => whnf
  refine br.h h ?_ ?_ ?_
  · rfl
  · clear h; intro hb h; conv => whnf
    all_goals (cases h; exact Res.z rfl rfl rfl)
  clear h; intro hb h; conv => whnf
  refine br.h h ?_ ?_ ?_
  · rfl
  · clear h; intro hb h; conv => whnf
    all_goals (cases h; exact Res.z rfl rfl rfl)
  clear h; intro hb h; conv => whnf
  replace h := obind.elim h; obtain ⟨b, hy, h⟩ := h
  refine sumK.q rfl rfl (r103_eq hy) rfl rfl rfl ?_
  conv => whnf
  all_goals (cases h; exact Res.z rfl rfl rfl)
theorem ok41 (icmp_Quoted : (List UInt8) → Option (api_Tuple × Bool)) (tuple_Back : api_Tuple → Option api_Tuple) (hS : SumsOK Try.prog (aget (sums41 icmp_Quoted tuple_Back))) : SumOK Try.prog 41 (s41 (icmp_AboutF icmp_Quoted tuple_Back)) := by
  refine SumOK.of_leads tab_ok (fun ar os r ha hr => ?_) ⟨Try.f41, rfl, by decide, rfl⟩
  replace hr : r41 (icmp_AboutF icmp_Quoted tuple_Back) ar (conts os) = some r := hr
  unfold r41 at hr
  generalize hc : conts os = C at hr
  replace hr := dV.elim hr; obtain ⟨v0, l1, y0, rfl, e0, hr⟩ := hr; obtain rfl := uvicmp_Message_eq _ _ e0
  replace hr := dFin hr; obtain ⟨rfl, rfl, x, h, rfl⟩ := hr
  obtain rfl := kinds_nil hc
  exact ⟨_, rfl, leads41 icmp_Quoted tuple_Back hS _ x h⟩
def icmp_About : icmp_Message → Option (api_Tuple × Bool) := icmp_AboutF icmp_Quoted tuple_Back
theorem lift41 : SumOK Try.prog 41 (s41 icmp_About) := ok41 icmp_Quoted tuple_Back (SumsOK.of_tab ⟨lift39, lift103, trivial⟩)
def R13_BackF (t : api_Tuple) : Option api_Tuple :=
  some (api_Tuple.mk t.Proto t.Dst t.Src t.DPort t.SPort)
def rx46 (x : api_Tuple) : SRes := ⟨.agg ⟨[.int .i64 x.Proto, .bool x.Src.V6, .int .u64 x.Src.Hi, .int .u64 x.Src.Lo, .bool x.Dst.V6, .int .u64 x.Dst.Hi, .int .u64 x.Dst.Lo, .int .i64 x.SPort, .int .i64 x.DPort]⟩, [], []⟩
def r46 (g : api_Tuple → Option api_Tuple) : Dec := dV uvapi_Tuple fun (y0 : api_Tuple) => dEnd (ofG (g y0) rx46)
theorem r46_c {g : api_Tuple → Option api_Tuple} {y0 : api_Tuple} {x : api_Tuple} (hx : g y0 = some x) : r46 g [.agg ⟨[.int .i64 y0.Proto, .bool y0.Src.V6, .int .u64 y0.Src.Hi, .int .u64 y0.Src.Lo, .bool y0.Dst.V6, .int .u64 y0.Dst.Hi, .int .u64 y0.Dst.Lo, .int .i64 y0.SPort, .int .i64 y0.DPort]⟩] [] = some (rx46 x) := (dV_eq (uvapi_Tuple_c _)).trans (ofG_eq hx)
def s46 (g : api_Tuple → Option api_Tuple) : Summ := ⟨[.v], r46 g⟩
theorem r46_eq {g : api_Tuple → Option api_Tuple} {y0 : api_Tuple} {x : api_Tuple} (hx : g y0 = some x) : (s46 g).run [.agg ⟨[.int .i64 y0.Proto, .bool y0.Src.V6, .int .u64 y0.Src.Hi, .int .u64 y0.Src.Lo, .bool y0.Dst.V6, .int .u64 y0.Dst.Hi, .int .u64 y0.Dst.Lo, .int .i64 y0.SPort, .int .i64 y0.DPort]⟩] [] = some (rx46 x) := r46_c hx
abbrev sums46 : List (Nat × Summ) := []
theorem leads46 (hS : SumsOK Try.prog (aget (sums46))) (t : api_Tuple) (res : api_Tuple) (h : R13_BackF t = some res) :
    Leads Try.prog 46 0 ⟨⟨46, 14, [(0, .agg ⟨[.int .i64 t.Proto, .bool t.Src.V6, .int .u64 t.Src.Hi, .int .u64 t.Src.Lo, .bool t.Dst.V6, .int .u64 t.Dst.Hi, .int .u64 t.Dst.Lo, .int .i64 t.SPort, .int .i64 t.DPort]⟩)], [.code k46_3], [], false, none⟩, [], [], 0⟩ (fun v H _ => Res 0 (rx46 res) v H) := by
  unfold R13_BackF at h
  refine ev_ok tab_ok hS true 3000 ?_
  conv => whnf
  all_goals (cases h; exact Res.z rfl rfl rfl)
theorem ok46 (hS : SumsOK Try.prog (aget (sums46))) : SumOK Try.prog 46 (s46 (R13_BackF)) := by
  refine SumOK.of_leads tab_ok (fun ar os r ha hr => ?_) ⟨Try.f46, rfl, by decide, rfl⟩
  replace hr : r46 (R13_BackF) ar (conts os) = some r := hr
  unfold r46 at hr
  generalize hc : conts os = C at hr
  replace hr := dV.elim hr; obtain ⟨v0, l1, y0, rfl, e0, hr⟩ := hr; obtain rfl := uvapi_Tuple_eq _ _ e0
  replace hr := dFin hr; obtain ⟨rfl, rfl, x, h, rfl⟩ := hr
  obtain rfl := kinds_nil hc
  exact ⟨_, rfl, leads46 hS _ x h⟩
def R13_Back : api_Tuple → Option api_Tuple := R13_BackF
theorem lift46 : SumOK Try.prog 46 (s46 R13_Back) := ok46 (SumsOK.of_tab trivial)
end Go.Vm.Code
namespace Go.Vm.Code
open Go Go.Vm
def none53 : api_Tuple × Bool := (⟨0, ⟨false, 0, 0⟩, ⟨false, 0, 0⟩, 0, 0⟩, false)
def tup53 (p : Int) (a b : api_Addr) (s : List UInt8) (z : Nat) : api_Tuple × Bool := (⟨p, a, b, vK s z 2, vK s (z + 2) 2⟩, true)
def quoted53 (s : List UInt8) : api_Tuple × Bool :=
  if vK s 0 1 / 16 = 4 then (if (vK s 0 1 % 16 * 4).toNat < 20 ∨ s.length < (vK s 0 1 % 16 * 4).toNat + 4 ∨ norm (wsum (s.take (vK s 0 1 % 16 * 4).toNat)) ≠ 65535 ∨ (vK s 9 1 ≠ 6 ∧ vK s 9 1 ≠ 17) then none53 else tup53 (vK s 9 1) (adr4 s 12) (adr4 s 16) s (vK s 0 1 % 16 * 4).toNat)
  else if vK s 0 1 / 16 = 6 then (if s.length < 44 ∨ (vK s 6 1 ≠ 6 ∧ vK s 6 1 ≠ 17) then none53 else tup53 (vK s 6 1) (adr6 s 8) (adr6 s 24) s 40)
  else none53
def quoteS (s : List UInt8) : Int × List UInt8 × List UInt8 × Bool :=
  if vK s 0 1 / 16 = 4 then (if (vK s 0 1 % 16 * 4).toNat < 20 ∨ s.length < (vK s 0 1 % 16 * 4).toNat ∨ norm (wsum (s.take (vK s 0 1 % 16 * 4).toNat)) ≠ 65535 then (0, [], [], false) else (vK s 9 1, (s.drop 12).take 8, s.drop (vK s 0 1 % 16 * 4).toNat, true))
  else if vK s 0 1 / 16 = 6 then (if s.length < 40 then (0, [], [], false) else (vK s 6 1, (s.drop 8).take 32, s.drop 40, true))
  else (0, [], [], false)
theorem num0_eq (s : List UInt8) (hs : s.length < 2 ^ 61) : octet_Reader_Num ⟨s, true, false⟩ 1 = some (vK s 0 1, rdr ⟨s, true, false⟩ 1) := by
  rw [rNum_eq rfl hs, if_neg (by omega)]
  unfold rdn
  rw [if_neg (by omega)]
  unfold rdt vK
  by_cases h : s.length = 0
  · rw [List.eq_nil_of_length_eq_zero h]; rfl
  · rw [if_neg (by simp; omega)]; rfl
theorem quote_eq {s : List UInt8} (hs : s.length < 2 ^ 38) : icmp_quote s = some (quoteS s) := by
  unfold icmp_quote icmp_quoteF quoteS
  rw [rNew_eq, Option.bind_some, num0_eq s (by omega), Option.bind_some]
  have r0 := vK_rng s 0 1 256 (by decide)
  have ea : andI .i64 (vK s 0 1) 15 = vK s 0 1 % 16 := andI64_mask 4 rfl (by omega) (by omega) (by omega)
  simp only []
  rw [fdivP, show ((2 : Int) ^ 4) = 16 from rfl, ea, wI64 (n := vK s 0 1 % 16 * 4) (by omega) (by omega)]
  obtain ⟨t, ht⟩ := Int.eq_ofNat_of_zero_le (show 0 ≤ vK s 0 1 % 16 * 4 by omega)
  rw [ht]
  simp only [Int.toNat_natCast]
  by_cases g1 : vK s 0 1 / 16 = 4
  · rw [if_pos g1, show (vK s 0 1 / 16 == 4) = true by simpa using g1, cond_true]
    by_cases g2 : t < 20
    · rw [cond_p (by omega), if_pos (.inl g2)]
    rw [cond_n (by omega)]
    by_cases g3 : s.length < t
    · rw [cond_p (by omega), if_pos (.inr (.inl g3))]
    rw [cond_n (by omega), oreq_p (by omega), Right_eq (by simp; omega), Option.bind_some]
    by_cases g4 : norm (wsum (s.take t)) = 65535
    · have e9 := vK_one (s := s) (p := 9) (by omega)
      have r9 := vK_rng s 9 1 256 (by decide)
      rw [if_neg (by omega), g4, show ((((65535 : Nat) : Int) == 65535)) = true from rfl, Bool.not_true, cond_false, List.getElem?_eq_getElem (show 9 < s.length by omega), Option.bind_some, oreq_p (by omega), oreq_p (by omega), List.take_of_length_le (i := s.length - t) (by simp), ← e9, wI64 (by omega) (by omega)]
    · rw [if_pos (.inr (.inr g4)), show ((((norm (wsum (s.take t)) : Nat) : Int) == 65535)) = false by simp; omega]; rfl
  · rw [if_neg g1, show (vK s 0 1 / 16 == 4) = false by simpa using g1, cond_false]
    by_cases g2 : vK s 0 1 / 16 = 6
    · rw [if_pos g2, show (vK s 0 1 / 16 == 6) = true by simpa using g2, cond_true]
      by_cases g3 : s.length < 40
      · rw [cond_p (by omega), if_pos g3]
      · have e6 := vK_one (s := s) (p := 6) (by omega)
        have r6 := vK_rng s 6 1 256 (by decide)
        rw [cond_n (by omega), if_neg g3, List.getElem?_eq_getElem (show 6 < s.length by omega), Option.bind_some, oreq_p (by omega), oreq_p (by omega), List.take_of_length_le (i := s.length - 40) (by simp), ← e6, wI64 (by omega) (by omega)]
    · rw [if_neg g2, show (vK s 0 1 / 16 == 6) = false by simpa using g2, cond_false]
theorem val4 {s : List UInt8} {p : Nat} (h : p + 4 ≤ s.length) : ((valL ((s.drop p).take 4) : Nat) : Int) = vK s p 2 * 65536 + vK s (p + 2) 2 := by
  unfold vK
  have e : (s.drop p).take 4 = (s.drop p).take 2 ++ (s.drop (p + 2)).take 2 := by
    rw [show (4 : Nat) = 2 + 2 from rfl, List.take_add, List.drop_drop]
  rw [e, val_append, show ((s.drop (p + 2)).take 2).length = 2 by simp; omega]
  omega
theorem iquoted_eq {s : List UInt8} (hs : s.length < 2 ^ 38) : icmp_Quoted s = some (quoted53 s) := by
  unfold icmp_Quoted icmp_QuotedF
  have hz : (⟨0, ⟨false, 0, 0⟩, ⟨false, 0, 0⟩, 0, 0⟩, false) = none53 := rfl
  rw [hz, quote_eq hs, Option.bind_some]
  have hg0 : octet_Get [] 0 4 = some (0, false) := by rw [octet_Get_eq (by simp)]; rfl
  unfold quoteS quoted53
  have r0 := vK_rng s 0 1 256 (by decide)
  obtain ⟨t, ht⟩ := Int.eq_ofNat_of_zero_le (show 0 ≤ vK s 0 1 % 16 * 4 by omega)
  rw [ht]
  simp only [Int.toNat_natCast]
  have ports : ∀ z : Nat, z + 4 ≤ s.length → octet_Get (s.drop z) 0 4 = some (vK s z 2 * 65536 + vK s (z + 2) 2, true) := by
    intro z h
    rw [octet_Get_eq (by simp; omega), getS_at (by omega) (by omega) (by omega) (by simp; omega), ← val4 h]; rfl
  have noports : ∀ z : Nat, s.length < z + 4 → octet_Get (s.drop z) 0 4 = some (0, false) := by
    intro z h
    rw [octet_Get_eq (by simp; omega)]
    unfold getS
    rw [if_neg (by simp; omega)]
  have hp : ∀ z : Nat, wI .i64 ((vK s z 2 * 65536 + vK s (z + 2) 2).fdiv (2 ^ 16)) = vK s z 2 ∧ wI .i64 (andI .u64 (vK s z 2 * 65536 + vK s (z + 2) 2) 65535) = vK s (z + 2) 2 := by
    intro z
    have a := vK_rng s z 2 65536 (by decide)
    have b := vK_rng s (z + 2) 2 65536 (by decide)
    rw [fdivP, andU64_mask 16 (by decide) (by omega) (by omega) (by omega)]
    constructor
    · rw [wI64 (by omega) (by omega)]; omega
    · rw [wI64 (by omega) (by omega)]; omega
  by_cases g1 : vK s 0 1 / 16 = 4
  · rw [if_pos g1, if_pos g1]
    by_cases g2 : t < 20 ∨ s.length < t ∨ norm (wsum (s.take t)) ≠ 65535
    · rw [if_pos g2, if_pos (g2.elim .inl fun g => g.elim (fun g => .inr (.inl (by omega))) fun g => .inr (.inr (.inl g)))]
      simp only []
      rw [hg0]; rfl
    · rw [if_neg g2]
      simp only [Bool.not_true, cond_false]
      by_cases g3 : s.length < t + 4
      · rw [if_pos (.inr (.inl g3)), noports t g3]; rfl
      rw [ports t (by omega), Option.bind_some]
      simp only [Bool.not_true, cond_false]
      have hl : ((s.drop 12).take 8).length = 8 := by simp; omega
      have a1 := aget4 (s := ((s.drop 12).take 8).take 4) (by simp; omega)
      have a2 := aget4 (s := (((s.drop 12).take 8).drop 4).take 4) (by simp; omega)
      rw [show (((s.drop 12).take 8).take 4) = (s.drop 12).take 4 by rw [List.take_take]; rfl] at *
      rw [show ((((s.drop 12).take 8).drop 4).take 4) = (s.drop 16).take 4 by rw [List.drop_take, List.drop_drop, List.take_take]; rfl] at *
      have e1 := vK_sub2 s 12 4 0 4 (by omega)
      have e2 := vK_sub2 s 16 4 0 4 (by omega)
      rw [e1] at a1
      rw [e2] at a2
      rw [hl, show (((8 : Nat) : Int).tdiv 2) = 4 from rfl, show wI .i64 4 = 4 from rfl, oreq_p (by omega), show ((4 : Int).toNat) = 4 from rfl, show (((s.drop 12).take 8).take 4) = (s.drop 12).take 4 by rw [List.take_take]; rfl, show ((((s.drop 12).take 8).drop 4).take (8 - 4)) = (s.drop 16).take 4 by rw [List.drop_take, List.drop_drop, List.take_take]; rfl, a1, Option.bind_some, a2, Option.bind_some, (hp t).1, (hp t).2]
      by_cases g4 : vK s 9 1 = 6
      · rw [show (vK s 9 1 != 6) = false by simpa using g4, cond_false, if_neg (by omega)]; rfl
      · rw [show (vK s 9 1 != 6) = true by simpa using g4, cond_true]
        by_cases g5 : vK s 9 1 = 17
        · rw [show (vK s 9 1 != 17) = false by simpa using g5, cond_false, if_neg (by omega)]; rfl
        · rw [show (vK s 9 1 != 17) = true by simpa using g5, cond_true, if_pos (.inr (.inr (.inr ⟨g4, g5⟩)))]
  · rw [if_neg g1, if_neg g1]
    by_cases g2 : vK s 0 1 / 16 = 6
    · rw [if_pos g2, if_pos g2]
      by_cases g3 : s.length < 40
      · rw [if_pos g3, if_pos (.inl (by omega))]
        simp only []
        rw [hg0]; rfl
      rw [if_neg g3]
      simp only [Bool.not_true, cond_false]
      by_cases g4 : s.length < 44
      · rw [if_pos (.inl g4), noports 40 (by omega)]; rfl
      rw [ports 40 (by omega), Option.bind_some]
      simp only [Bool.not_true, cond_false]
      have hl : ((s.drop 8).take 32).length = 32 := by simp; omega
      rw [hl, show (((32 : Nat) : Int).tdiv 2) = 16 from rfl, show wI .i64 16 = 16 from rfl, oreq_p (by omega), show ((16 : Int).toNat) = 16 from rfl, show (((s.drop 8).take 32).take 16) = (s.drop 8).take 16 by rw [List.take_take]; rfl, show ((((s.drop 8).take 32).drop 16).take (32 - 16)) = (s.drop 24).take 16 by rw [List.drop_take, List.drop_drop, List.take_take]; rfl, aget16 8 (by omega), Option.bind_some, aget16 24 (by omega), Option.bind_some, (hp 40).1, (hp 40).2]
      by_cases g5 : vK s 6 1 = 6
      · rw [show (vK s 6 1 != 6) = false by simpa using g5, cond_false, if_neg (by omega)]; rfl
      · rw [show (vK s 6 1 != 6) = true by simpa using g5, cond_true]
        by_cases g6 : vK s 6 1 = 17
        · rw [show (vK s 6 1 != 17) = false by simpa using g6, cond_false, if_neg (by omega)]; rfl
        · rw [show (vK s 6 1 != 17) = true by simpa using g6, cond_true, if_pos (.inr ⟨g5, g6⟩)]
    · rw [if_neg g2, if_neg g2]
      simp only []
      rw [hg0]; rfl
def backT (t : api_Tuple) : api_Tuple := ⟨t.Proto, t.Dst, t.Src, t.DPort, t.SPort⟩
theorem tback_eq (t : api_Tuple) : tuple_Back t = some (backT t) := rfl
theorem rback_eq (t : api_Tuple) : R13_Back t = some (backT t) := rfl
def about53 (m : icmp_Message) : api_Tuple × Bool := if (quoted53 m.Quote).2 = false ∨ m.Kind < 1 ∨ 3 < m.Kind then none53 else (backT (quoted53 m.Quote).1, true)
theorem iabout_eq {m : icmp_Message} (hs : m.Quote.length < 2 ^ 38) : icmp_About m = some (about53 m) := by
  unfold icmp_About icmp_AboutF about53
  have hz : (⟨0, ⟨false, 0, 0⟩, ⟨false, 0, 0⟩, 0, 0⟩, false) = none53 := rfl
  rw [hz, iquoted_eq hs, Option.bind_some]
  cases h : (quoted53 m.Quote).2
  · rw [if_pos (.inl rfl)]; rfl
  · rw [Bool.not_true, cond_false]
    by_cases g1 : m.Kind < 1
    · rw [cond_p g1, if_pos (.inr (.inl g1))]
    by_cases g2 : m.Kind > 3
    · rw [cond_n g1, cond_p g2, if_pos (.inr (.inr g2))]
    rw [cond_n g1, cond_n g2, tback_eq, Option.bind_some, if_neg (fun h => h.elim (fun h => by cases h) fun h => by omega)]
end Go.Vm.Code
namespace Go.Vm.Code
open Go Go.Vm Go.Proofs
set_option maxRecDepth 100000
set_option maxHeartbeats 4000000
set_option linter.unusedVariables false
def icmp_overF (ipfour_Pseudo : api_Addr → api_Addr → Int → Int → Option (List UInt8)) (src : api_Addr) (dst : api_Addr) (n : Int) : Option ((List UInt8) × Bool) :=
  (ipfour_Pseudo src dst 58 n).bind fun p =>
  cond (p == [])
    (
    some ((p, !(p == []))))
    (
    cond (src.V6)
      (
      some ((p, !(p == []))))
      (
      some (([], true))))
def rx87 (x : (List UInt8) × Bool) : SRes := ⟨.tuple ⟨[.string ⟨⟨x.1⟩⟩, .bool x.2]⟩, [], []⟩
def r87 (g : api_Addr → api_Addr → Int → Option ((List UInt8) × Bool)) : Dec := dV uvapi_Addr fun (y0 : api_Addr) => dV uvapi_Addr fun (y1 : api_Addr) => dV (asI .i64) fun (y2 : Int) => dEnd (ofG (g y0 y1 y2) rx87)
theorem r87_c {g : api_Addr → api_Addr → Int → Option ((List UInt8) × Bool)} {y0 : api_Addr} {y1 : api_Addr} {y2 : Int} {x : (List UInt8) × Bool} (hx : g y0 y1 y2 = some x) : r87 g [.agg ⟨[.bool y0.V6, .int .u64 y0.Hi, .int .u64 y0.Lo]⟩, .agg ⟨[.bool y1.V6, .int .u64 y1.Hi, .int .u64 y1.Lo]⟩, .int .i64 y2] [] = some (rx87 x) := (dV_eq (uvapi_Addr_c _)).trans ((dV_eq (uvapi_Addr_c _)).trans ((dV_eq (asI_c _)).trans (ofG_eq hx)))
def s87 (g : api_Addr → api_Addr → Int → Option ((List UInt8) × Bool)) : Summ := ⟨[.v, .v, .v], r87 g⟩
theorem r87_eq {g : api_Addr → api_Addr → Int → Option ((List UInt8) × Bool)} {y0 : api_Addr} {y1 : api_Addr} {y2 : Int} {x : (List UInt8) × Bool} (hx : g y0 y1 y2 = some x) : (s87 g).run [.agg ⟨[.bool y0.V6, .int .u64 y0.Hi, .int .u64 y0.Lo]⟩, .agg ⟨[.bool y1.V6, .int .u64 y1.Hi, .int .u64 y1.Lo]⟩, .int .i64 y2] [] = some (rx87 x) := r87_c hx
abbrev sums87 (ipfour_Pseudo : api_Addr → api_Addr → Int → Int → Option (List UInt8)) : List (Nat × Summ) := [(27, s27 ipfour_Pseudo)]
theorem leads87 (ipfour_Pseudo : api_Addr → api_Addr → Int → Int → Option (List UInt8)) (hS : SumsOK Try.prog (aget (sums87 ipfour_Pseudo))) (src : api_Addr) (dst : api_Addr) (n : Int) (res : (List UInt8) × Bool) (h : icmp_overF ipfour_Pseudo src dst n = some res) :
    Leads Try.prog 87 0 ⟨⟨87, 22, [(0, .agg ⟨[.bool src.V6, .int .u64 src.Hi, .int .u64 src.Lo]⟩), (1, .agg ⟨[.bool dst.V6, .int .u64 dst.Hi, .int .u64 dst.Lo]⟩), (2, .int .i64 n)], [.code k87_11], [], false, none⟩, [], [], 0⟩ (fun v H _ => Res 0 (rx87 res) v H) := by
  unfold icmp_overF at h
  refine ev_ok tab_ok hS true 3000 ?_
  conv => whnf
  replace h := obind.elim h; obtain ⟨p, hy, h⟩ := h
  refine sumK.q rfl rfl (r27_eq hy) rfl rfl rfl ?_
  conv => whnf
  refine br.h h ?_ ?_ ?_
  · rfl
  · clear h; intro hb h; conv => whnf
    all_goals (cases h; exact Res.z rfl rfl rfl)
  clear h; intro hb h; conv => whnf
  refine br.h h ?_ ?_ ?_
  · rfl
  · clear h; intro hb h; conv => whnf
    all_goals (cases h; exact Res.z rfl rfl rfl)
  clear h; intro hb h; conv => whnf
  all_goals (cases h; exact Res.z rfl rfl rfl)
theorem ok87 (ipfour_Pseudo : api_Addr → api_Addr → Int → Int → Option (List UInt8)) (hS : SumsOK Try.prog (aget (sums87 ipfour_Pseudo))) : SumOK Try.prog 87 (s87 (icmp_overF ipfour_Pseudo)) := by
  refine SumOK.of_leads tab_ok (fun ar os r ha hr => ?_) ⟨Try.f87, rfl, by decide, rfl⟩
  replace hr : r87 (icmp_overF ipfour_Pseudo) ar (conts os) = some r := hr
  unfold r87 at hr
  generalize hc : conts os = C at hr
  replace hr := dV.elim hr; obtain ⟨v0, l1, y0, rfl, e0, hr⟩ := hr; obtain rfl := uvapi_Addr_eq _ _ e0
  replace hr := dV.elim hr; obtain ⟨v1, l2, y1, rfl, e1, hr⟩ := hr; obtain rfl := uvapi_Addr_eq _ _ e1
  replace hr := dV.elim hr; obtain ⟨v2, l3, y2, rfl, e2, hr⟩ := hr; obtain rfl := asI_eq _ _ _ e2
  replace hr := dFin hr; obtain ⟨rfl, rfl, x, h, rfl⟩ := hr
  obtain rfl := kinds_nil hc
  exact ⟨_, rfl, leads87 ipfour_Pseudo hS _ _ _ x h⟩
def icmp_over : api_Addr → api_Addr → Int → Option ((List UInt8) × Bool) := icmp_overF ipfour_Pseudo
theorem lift87 : SumOK Try.prog 87 (s87 icmp_over) := ok87 ipfour_Pseudo (SumsOK.of_tab ⟨lift27, trivial⟩)
def icmp_withinF (n : Int) (most : Int) : Option Bool :=
  cond (decide (0 ≤ n))
    (
    some (decide (n ≤ most)))
    (
    some (false))
def rx121 (x : Bool) : SRes := ⟨.bool x, [], []⟩
def r121 (g : Int → Int → Option Bool) : Dec := dV (asI .i64) fun (y0 : Int) => dV (asI .i64) fun (y1 : Int) => dEnd (ofG (g y0 y1) rx121)
theorem r121_c {g : Int → Int → Option Bool} {y0 : Int} {y1 : Int} {x : Bool} (hx : g y0 y1 = some x) : r121 g [.int .i64 y0, .int .i64 y1] [] = some (rx121 x) := (dV_eq (asI_c _)).trans ((dV_eq (asI_c _)).trans (ofG_eq hx))
def s121 (g : Int → Int → Option Bool) : Summ := ⟨[.v, .v], r121 g⟩
theorem r121_eq {g : Int → Int → Option Bool} {y0 : Int} {y1 : Int} {x : Bool} (hx : g y0 y1 = some x) : (s121 g).run [.int .i64 y0, .int .i64 y1] [] = some (rx121 x) := r121_c hx
abbrev sums121 : List (Nat × Summ) := []
theorem leads121 (hS : SumsOK Try.prog (aget (sums121))) (n : Int) (most : Int) (res : Bool) (h : icmp_withinF n most = some res) :
    Leads Try.prog 121 0 ⟨⟨121, 12, [(0, .int .i64 n), (1, .int .i64 most)], [.code k121_3], [], false, none⟩, [], [], 0⟩ (fun v H _ => Res 0 (rx121 res) v H) := by
  unfold icmp_withinF at h
  refine ev_ok tab_ok hS true 3000 ?_
  conv => whnf
  refine br.h h ?_ ?_ ?_
  · rfl
  · clear h; intro hb h; conv => whnf
    all_goals (cases h; exact Res.z rfl rfl rfl)
  clear h; intro hb h; conv => whnf
  all_goals (cases h; exact Res.z rfl rfl rfl)
theorem ok121 (hS : SumsOK Try.prog (aget (sums121))) : SumOK Try.prog 121 (s121 (icmp_withinF)) := by
  refine SumOK.of_leads tab_ok (fun ar os r ha hr => ?_) ⟨Try.f121, rfl, by decide, rfl⟩
  replace hr : r121 (icmp_withinF) ar (conts os) = some r := hr
  unfold r121 at hr
  generalize hc : conts os = C at hr
  replace hr := dV.elim hr; obtain ⟨v0, l1, y0, rfl, e0, hr⟩ := hr; obtain rfl := asI_eq _ _ _ e0
  replace hr := dV.elim hr; obtain ⟨v1, l2, y1, rfl, e1, hr⟩ := hr; obtain rfl := asI_eq _ _ _ e1
  replace hr := dFin hr; obtain ⟨rfl, rfl, x, h, rfl⟩ := hr
  obtain rfl := kinds_nil hc
  exact ⟨_, rfl, leads121 hS _ _ x h⟩
def icmp_within : Int → Int → Option Bool := icmp_withinF
theorem lift121 : SumOK Try.prog 121 (s121 icmp_within) := ok121 (SumsOK.of_tab trivial)
def icmp_fitsF (kind : Int) (code : Int) (v6 : Bool) : Option Bool :=
  cond (kind == 2)
    (
    cond (v6)
      (
      some (code == 0))
      (
      some (code == 4)))
    (
    cond (kind == 1)
      (
      cond (!v6)
        (
        some (code != 4))
        (
        some (true)))
      (
      some (true)))
def rx122 (x : Bool) : SRes := ⟨.bool x, [], []⟩
def r122 (g : Int → Int → Bool → Option Bool) : Dec := dV (asI .i64) fun (y0 : Int) => dV (asI .i64) fun (y1 : Int) => dV asB fun (y2 : Bool) => dEnd (ofG (g y0 y1 y2) rx122)
theorem r122_c {g : Int → Int → Bool → Option Bool} {y0 : Int} {y1 : Int} {y2 : Bool} {x : Bool} (hx : g y0 y1 y2 = some x) : r122 g [.int .i64 y0, .int .i64 y1, .bool y2] [] = some (rx122 x) := (dV_eq (asI_c _)).trans ((dV_eq (asI_c _)).trans ((dV_eq (asB_c)).trans (ofG_eq hx)))
def s122 (g : Int → Int → Bool → Option Bool) : Summ := ⟨[.v, .v, .v], r122 g⟩
theorem r122_eq {g : Int → Int → Bool → Option Bool} {y0 : Int} {y1 : Int} {y2 : Bool} {x : Bool} (hx : g y0 y1 y2 = some x) : (s122 g).run [.int .i64 y0, .int .i64 y1, .bool y2] [] = some (rx122 x) := r122_c hx
abbrev sums122 : List (Nat × Summ) := []
theorem leads122 (hS : SumsOK Try.prog (aget (sums122))) (kind : Int) (code : Int) (v6 : Bool) (res : Bool) (h : icmp_fitsF kind code v6 = some res) :
    Leads Try.prog 122 0 ⟨⟨122, 29, [(0, .int .i64 kind), (1, .int .i64 code), (2, .bool v6)], [.code k122_20], [], false, none⟩, [], [], 0⟩ (fun v H _ => Res 0 (rx122 res) v H) := by
  unfold icmp_fitsF at h
  refine ev_ok tab_ok hS true 3000 ?_
  conv => whnf
  refine br.h h ?_ ?_ ?_
  · rfl
  · clear h; intro hb h; conv => whnf
    refine br.h h ?_ ?_ ?_
    · rfl
    · clear h; intro hb h; conv => whnf
      all_goals (cases h; exact Res.z rfl rfl rfl)
    clear h; intro hb h; conv => whnf
    refine br.pos ?_ ?_; (focus (clear h; first | assumption | (simp_all; done)))
    conv => whnf
    all_goals (cases h; exact Res.z rfl rfl rfl)
  clear h; intro hb h; conv => whnf
  refine br.neg ?_ ?_; (focus (clear h; first | assumption | (simp_all; done)))
  conv => whnf
  refine br.h2 h ?_ ?_ ?_
  · rfl
  · clear h; intro hb h; conv => whnf
    all_goals (cases h; exact Res.z rfl rfl rfl)
  clear h; intro hb h; conv => whnf
  refine br.h h ?_ ?_ ?_
  · rfl
  · clear h; intro hb h; conv => whnf
    all_goals (cases h; exact Res.z rfl rfl rfl)
  clear h; intro hb h; conv => whnf
  all_goals (cases h; exact Res.z rfl rfl rfl)
theorem ok122 (hS : SumsOK Try.prog (aget (sums122))) : SumOK Try.prog 122 (s122 (icmp_fitsF)) := by
  refine SumOK.of_leads tab_ok (fun ar os r ha hr => ?_) ⟨Try.f122, rfl, by decide, rfl⟩
  replace hr : r122 (icmp_fitsF) ar (conts os) = some r := hr
  unfold r122 at hr
  generalize hc : conts os = C at hr
  replace hr := dV.elim hr; obtain ⟨v0, l1, y0, rfl, e0, hr⟩ := hr; obtain rfl := asI_eq _ _ _ e0
  replace hr := dV.elim hr; obtain ⟨v1, l2, y1, rfl, e1, hr⟩ := hr; obtain rfl := asI_eq _ _ _ e1
  replace hr := dV.elim hr; obtain ⟨v2, l3, y2, rfl, e2, hr⟩ := hr; obtain rfl := asB_eq _ _ e2
  replace hr := dFin hr; obtain ⟨rfl, rfl, x, h, rfl⟩ := hr
  obtain rfl := kinds_nil hc
  exact ⟨_, rfl, leads122 hS _ _ _ x h⟩
def icmp_fits : Int → Int → Bool → Option Bool := icmp_fitsF
theorem lift122 : SumOK Try.prog 122 (s122 icmp_fits) := ok122 (SumsOK.of_tab trivial)
def icmp_Message_mayF (icmp_fits : Int → Int → Bool → Option Bool) (icmp_within : Int → Int → Option Bool) (m : icmp_Message) (v6 : Bool) : Option Bool :=
  cond (decide (m.Kind < 1))
    (
    some (false))
    (
    cond (decide (m.Kind > 3))
      (
      some (false))
      (
      (icmp_within m.Code 255).bind fun w =>
      cond (!w)
        (
        some (false))
        (
        (icmp_within m.MTU 65535).bind fun w1 =>
        cond (!w1)
          (
          some (false))
          (
          cond (decide ((m.Quote.length : Int) > 1232))
            (
            some (false))
            (
            (icmp_fits m.Kind m.Code v6).bind fun f =>
            cond (f)
              (
              cond (m.Kind == 2)
                (
                some (true))
                (
                some (m.MTU == 0)))
              (
              some (false)))))))
def rx88 (x : Bool) : SRes := ⟨.bool x, [], []⟩
def r88 (g : icmp_Message → Bool → Option Bool) : Dec := dV uvicmp_Message fun (y0 : icmp_Message) => dV asB fun (y1 : Bool) => dEnd (ofG (g y0 y1) rx88)
theorem r88_c {g : icmp_Message → Bool → Option Bool} {y0 : icmp_Message} {y1 : Bool} {x : Bool} (hx : g y0 y1 = some x) : r88 g [.agg ⟨[.int .i64 y0.Kind, .int .i64 y0.Code, .int .i64 y0.MTU, .string ⟨⟨y0.Quote⟩⟩]⟩, .bool y1] [] = some (rx88 x) := (dV_eq (uvicmp_Message_c _)).trans ((dV_eq (asB_c)).trans (ofG_eq hx))
def s88 (g : icmp_Message → Bool → Option Bool) : Summ := ⟨[.v, .v], r88 g⟩
theorem r88_eq {g : icmp_Message → Bool → Option Bool} {y0 : icmp_Message} {y1 : Bool} {x : Bool} (hx : g y0 y1 = some x) : (s88 g).run [.agg ⟨[.int .i64 y0.Kind, .int .i64 y0.Code, .int .i64 y0.MTU, .string ⟨⟨y0.Quote⟩⟩]⟩, .bool y1] [] = some (rx88 x) := r88_c hx
abbrev sums88 (icmp_fits : Int → Int → Bool → Option Bool) (icmp_within : Int → Int → Option Bool) : List (Nat × Summ) := [(122, s122 icmp_fits), (121, s121 icmp_within)]
theorem leads88 (icmp_fits : Int → Int → Bool → Option Bool) (icmp_within : Int → Int → Option Bool) (hS : SumsOK Try.prog (aget (sums88 icmp_fits icmp_within))) (m : icmp_Message) (v6 : Bool) (res : Bool) (h : icmp_Message_mayF icmp_fits icmp_within m v6 = some res) :
    Leads Try.prog 88 0 ⟨⟨88, 47, [(0, .agg ⟨[.int .i64 m.Kind, .int .i64 m.Code, .int .i64 m.MTU, .string ⟨⟨m.Quote⟩⟩]⟩), (1, .bool v6)], [.code k88_9], [], false, none⟩, [], [], 0⟩ (fun v H _ => Res 0 (rx88 res) v H) := by
  unfold icmp_Message_mayF at h
  refine ev_ok tab_ok hS true 3000 ?_
  conv => whnf
  refine br.h h ?_ ?_ ?_
  · rfl
  · clear h; intro hb h; conv => whnf
    all_goals (cases h; exact Res.z rfl rfl rfl)
  clear h; intro hb h; conv => whnf
  refine br.h h ?_ ?_ ?_
  · rfl
  · clear h; intro hb h; conv => whnf
    all_goals (cases h; exact Res.z rfl rfl rfl)
  clear h; intro hb h; conv => whnf
  replace h := obind.elim h; obtain ⟨w, hy, h⟩ := h
  refine sumK.q rfl rfl (r121_eq hy) rfl rfl rfl ?_
  conv => whnf
  refine br.h h ?_ ?_ ?_
  · rfl
  · clear h; intro hb h; conv => whnf
    all_goals (cases h; exact Res.z rfl rfl rfl)
  clear h; intro hb h; conv => whnf
  replace h := obind.elim h; obtain ⟨w1, hy, h⟩ := h
  refine sumK.q rfl rfl (r121_eq hy) rfl rfl rfl ?_
  conv => whnf
  refine br.h h ?_ ?_ ?_
  · rfl
  · clear h; intro hb h; conv => whnf
    all_goals (cases h; exact Res.z rfl rfl rfl)
  clear h; intro hb h; conv => whnf
  refine br.h h ?_ ?_ ?_
  · rfl
  · clear h; intro hb h; conv => whnf
    all_goals (cases h; exact Res.z rfl rfl rfl)
  clear h; intro hb h; conv => whnf
  replace h := obind.elim h; obtain ⟨f, hy, h⟩ := h
  refine sumK.q rfl rfl (r122_eq hy) rfl rfl rfl ?_
  conv => whnf
  refine br.h2 h ?_ ?_ ?_
  · rfl
  · clear h; intro hb h; conv => whnf
    all_goals (cases h; exact Res.z rfl rfl rfl)
  clear h; intro hb h; conv => whnf
  refine br.h h ?_ ?_ ?_
  · rfl
  · clear h; intro hb h; conv => whnf
    all_goals (cases h; exact Res.z rfl rfl rfl)
  clear h; intro hb h; conv => whnf
  all_goals (cases h; exact Res.z rfl rfl rfl)
theorem ok88 (icmp_fits : Int → Int → Bool → Option Bool) (icmp_within : Int → Int → Option Bool) (hS : SumsOK Try.prog (aget (sums88 icmp_fits icmp_within))) : SumOK Try.prog 88 (s88 (icmp_Message_mayF icmp_fits icmp_within)) := by
  refine SumOK.of_leads tab_ok (fun ar os r ha hr => ?_) ⟨Try.f88, rfl, by decide, rfl⟩
  replace hr : r88 (icmp_Message_mayF icmp_fits icmp_within) ar (conts os) = some r := hr
  unfold r88 at hr
  generalize hc : conts os = C at hr
  replace hr := dV.elim hr; obtain ⟨v0, l1, y0, rfl, e0, hr⟩ := hr; obtain rfl := uvicmp_Message_eq _ _ e0
  replace hr := dV.elim hr; obtain ⟨v1, l2, y1, rfl, e1, hr⟩ := hr; obtain rfl := asB_eq _ _ e1
  replace hr := dFin hr; obtain ⟨rfl, rfl, x, h, rfl⟩ := hr
  obtain rfl := kinds_nil hc
  exact ⟨_, rfl, leads88 icmp_fits icmp_within hS _ _ x h⟩
def icmp_Message_may : icmp_Message → Bool → Option Bool := icmp_Message_mayF icmp_fits icmp_within
theorem lift88 : SumOK Try.prog 88 (s88 icmp_Message_may) := ok88 icmp_fits icmp_within (SumsOK.of_tab ⟨lift122, lift121, trivial⟩)
def icmp_typesF : Option Arr4_Arr2_Int :=
  some (Arr4_Arr2_Int.mk (Arr2_Int.mk (-1) (-1)) (Arr2_Int.mk 3 1) (Arr2_Int.mk 3 2) (Arr2_Int.mk 11 3))
def rx89 (x : Arr4_Arr2_Int) : SRes := ⟨.agg ⟨[.int .i64 x.e0.e0, .int .i64 x.e0.e1, .int .i64 x.e1.e0, .int .i64 x.e1.e1, .int .i64 x.e2.e0, .int .i64 x.e2.e1, .int .i64 x.e3.e0, .int .i64 x.e3.e1]⟩, [], []⟩
def r89 (g : Option Arr4_Arr2_Int) : Dec := dEnd (ofG (g) rx89)
theorem r89_c {g : Option Arr4_Arr2_Int} {x : Arr4_Arr2_Int} (hx : g = some x) : r89 g [] [] = some (rx89 x) := ofG_eq hx
def s89 (g : Option Arr4_Arr2_Int) : Summ := ⟨[], r89 g⟩
theorem r89_eq {g : Option Arr4_Arr2_Int} {x : Arr4_Arr2_Int} (hx : g = some x) : (s89 g).run [] [] = some (rx89 x) := r89_c hx
abbrev sums89 : List (Nat × Summ) := []
theorem leads89 (hS : SumsOK Try.prog (aget (sums89))) (res : Arr4_Arr2_Int) (h : icmp_typesF = some res) :
    Leads Try.prog 89 0 ⟨⟨89, 6, [], [.code k89_3], [], false, none⟩, [], [], 0⟩ (fun v H _ => Res 0 (rx89 res) v H) := by
  unfold icmp_typesF at h
  refine ev_ok tab_ok hS true 3000 ?_
  conv => whnf
  all_goals (cases h; exact Res.z rfl rfl rfl)
theorem ok89 (hS : SumsOK Try.prog (aget (sums89))) : SumOK Try.prog 89 (s89 (icmp_typesF)) := by
  refine SumOK.of_leads tab_ok (fun ar os r ha hr => ?_) ⟨Try.f89, rfl, by decide, rfl⟩
  replace hr : r89 (icmp_typesF) ar (conts os) = some r := hr
  unfold r89 at hr
  generalize hc : conts os = C at hr
  replace hr := dFin hr; obtain ⟨rfl, rfl, x, h, rfl⟩ := hr
  obtain rfl := kinds_nil hc
  exact ⟨_, rfl, leads89 hS x h⟩
def icmp_types : Option Arr4_Arr2_Int := icmp_typesF
theorem lift89 : SumOK Try.prog 89 (s89 icmp_types) := ok89 (SumsOK.of_tab trivial)
def icmp_sideF (v6 : Bool) : Option Int :=
  cond (v6)
    (
    some (1))
    (
    some (0))
def rx90 (x : Int) : SRes := ⟨.int .i64 x, [], []⟩
def r90 (g : Bool → Option Int) : Dec := dV asB fun (y0 : Bool) => dEnd (ofG (g y0) rx90)
theorem r90_c {g : Bool → Option Int} {y0 : Bool} {x : Int} (hx : g y0 = some x) : r90 g [.bool y0] [] = some (rx90 x) := (dV_eq (asB_c)).trans (ofG_eq hx)
def s90 (g : Bool → Option Int) : Summ := ⟨[.v], r90 g⟩
theorem r90_eq {g : Bool → Option Int} {y0 : Bool} {x : Int} (hx : g y0 = some x) : (s90 g).run [.bool y0] [] = some (rx90 x) := r90_c hx
abbrev sums90 : List (Nat × Summ) := []
theorem leads90 (hS : SumsOK Try.prog (aget (sums90))) (v6 : Bool) (res : Int) (h : icmp_sideF v6 = some res) :
    Leads Try.prog 90 0 ⟨⟨90, 4, [(0, .bool v6)], [.code k90_9], [], false, none⟩, [], [], 0⟩ (fun v H _ => Res 0 (rx90 res) v H) := by
  unfold icmp_sideF at h
  refine ev_ok tab_ok hS true 3000 ?_
  conv => whnf
  refine br.h h ?_ ?_ ?_
  · rfl
  · clear h; intro hb h; conv => whnf
    all_goals (cases h; exact Res.z rfl rfl rfl)
  clear h; intro hb h; conv => whnf
  all_goals (cases h; exact Res.z rfl rfl rfl)
theorem ok90 (hS : SumsOK Try.prog (aget (sums90))) : SumOK Try.prog 90 (s90 (icmp_sideF)) := by
  refine SumOK.of_leads tab_ok (fun ar os r ha hr => ?_) ⟨Try.f90, rfl, by decide, rfl⟩
  replace hr : r90 (icmp_sideF) ar (conts os) = some r := hr
  unfold r90 at hr
  generalize hc : conts os = C at hr
  replace hr := dV.elim hr; obtain ⟨v0, l1, y0, rfl, e0, hr⟩ := hr; obtain rfl := asB_eq _ _ e0
  replace hr := dFin hr; obtain ⟨rfl, rfl, x, h, rfl⟩ := hr
  obtain rfl := kinds_nil hc
  exact ⟨_, rfl, leads90 hS _ x h⟩
def icmp_side : Bool → Option Int := icmp_sideF
theorem lift90 : SumOK Try.prog 90 (s90 icmp_side) := ok90 (SumsOK.of_tab trivial)
def icmp_PutF (check_Of : (List UInt8) → Option Int) (check_Set : (List UInt8) → Int → Int → Int → Option (List UInt8)) (icmp_Message_may : icmp_Message → Bool → Option Bool) (icmp_over : api_Addr → api_Addr → Int → Option ((List UInt8) × Bool)) (icmp_side : Bool → Option Int) (icmp_types : Option Arr4_Arr2_Int) (octet_Put : Int → Int → Option (List UInt8)) (m : icmp_Message) (src : api_Addr) (dst : api_Addr) : Option ((List UInt8) × Int) :=
  (icmp_over src dst (wI .i64 (8 + (m.Quote.length : Int)))).bind fun xo =>
  cond (!xo.2)
    (
    some (([], 1)))
    (
    (icmp_Message_may m src.V6).bind fun m1 =>
    cond (!m1)
      (
      some (([], 1)))
      (
      (icmp_types).bind fun t =>
      oreq (decide (0 ≤ m.Kind ∧ m.Kind < 4)) <|
      ([udp_Head.mk t.e0.e0 t.e0.e1, udp_Head.mk t.e1.e0 t.e1.e1, udp_Head.mk t.e2.e0 t.e2.e1, udp_Head.mk t.e3.e0 t.e3.e1][m.Kind.toNat]?).bind fun (e : udp_Head) =>
      (icmp_side src.V6).bind fun s =>
      oreq (decide (0 ≤ s ∧ s < 2)) <|
      ([e.SPort, e.DPort][s.toNat]?).bind fun (e1 : Int) =>
      let t1 := iorI .u64 (wI .u64 ((wI .u64 e1) * 2 ^ 8)) (wI .u64 m.Code)
      (octet_Put t1 2).bind fun p =>
      (octet_Put (wI .u64 m.MTU) 6).bind fun p1 =>
      oreq (decide (p.length + p1.length < 2 ^ 63)) <|
      oreq (decide ((p ++ p1).length + m.Quote.length < 2 ^ 63)) <|
      oreq (decide (xo.1.length + ((p ++ p1) ++ m.Quote).length < 2 ^ 63)) <|
      (check_Of (xo.1 ++ ((p ++ p1) ++ m.Quote))).bind fun xo1 =>
      (check_Set ((p ++ p1) ++ m.Quote) 2 2 (wI .u64 xo1)).bind fun s1 =>
      some ((s1, 0))))
def rx31 (x : (List UInt8) × Int) : SRes := ⟨.tuple ⟨[.string ⟨⟨x.1⟩⟩, .int .i64 x.2]⟩, [], []⟩
def r31 (g : icmp_Message → api_Addr → api_Addr → Option ((List UInt8) × Int)) : Dec := dV uvicmp_Message fun (y0 : icmp_Message) => dV uvapi_Addr fun (y1 : api_Addr) => dV uvapi_Addr fun (y2 : api_Addr) => dEnd (ofG (g y0 y1 y2) rx31)
theorem r31_c {g : icmp_Message → api_Addr → api_Addr → Option ((List UInt8) × Int)} {y0 : icmp_Message} {y1 : api_Addr} {y2 : api_Addr} {x : (List UInt8) × Int} (hx : g y0 y1 y2 = some x) : r31 g [.agg ⟨[.int .i64 y0.Kind, .int .i64 y0.Code, .int .i64 y0.MTU, .string ⟨⟨y0.Quote⟩⟩]⟩, .agg ⟨[.bool y1.V6, .int .u64 y1.Hi, .int .u64 y1.Lo]⟩, .agg ⟨[.bool y2.V6, .int .u64 y2.Hi, .int .u64 y2.Lo]⟩] [] = some (rx31 x) := (dV_eq (uvicmp_Message_c _)).trans ((dV_eq (uvapi_Addr_c _)).trans ((dV_eq (uvapi_Addr_c _)).trans (ofG_eq hx)))
def s31 (g : icmp_Message → api_Addr → api_Addr → Option ((List UInt8) × Int)) : Summ := ⟨[.v, .v, .v], r31 g⟩
theorem r31_eq {g : icmp_Message → api_Addr → api_Addr → Option ((List UInt8) × Int)} {y0 : icmp_Message} {y1 : api_Addr} {y2 : api_Addr} {x : (List UInt8) × Int} (hx : g y0 y1 y2 = some x) : (s31 g).run [.agg ⟨[.int .i64 y0.Kind, .int .i64 y0.Code, .int .i64 y0.MTU, .string ⟨⟨y0.Quote⟩⟩]⟩, .agg ⟨[.bool y1.V6, .int .u64 y1.Hi, .int .u64 y1.Lo]⟩, .agg ⟨[.bool y2.V6, .int .u64 y2.Hi, .int .u64 y2.Lo]⟩] [] = some (rx31 x) := r31_c hx
abbrev sums31 (check_Of : (List UInt8) → Option Int) (check_Set : (List UInt8) → Int → Int → Int → Option (List UInt8)) (icmp_Message_may : icmp_Message → Bool → Option Bool) (icmp_over : api_Addr → api_Addr → Int → Option ((List UInt8) × Bool)) (icmp_side : Bool → Option Int) (icmp_types : Option Arr4_Arr2_Int) (octet_Put : Int → Int → Option (List UInt8)) : List (Nat × Summ) := [(64, s64 check_Of), (65, s65 check_Set), (88, s88 icmp_Message_may), (87, s87 icmp_over), (90, s90 icmp_side), (89, s89 icmp_types), (62, s62 octet_Put)]
theorem leads31 (check_Of : (List UInt8) → Option Int) (check_Set : (List UInt8) → Int → Int → Int → Option (List UInt8)) (icmp_Message_may : icmp_Message → Bool → Option Bool) (icmp_over : api_Addr → api_Addr → Int → Option ((List UInt8) × Bool)) (icmp_side : Bool → Option Int) (icmp_types : Option Arr4_Arr2_Int) (octet_Put : Int → Int → Option (List UInt8)) (hS : SumsOK Try.prog (aget (sums31 check_Of check_Set icmp_Message_may icmp_over icmp_side icmp_types octet_Put))) (m : icmp_Message) (src : api_Addr) (dst : api_Addr) (res : (List UInt8) × Int) (h : icmp_PutF check_Of check_Set icmp_Message_may icmp_over icmp_side icmp_types octet_Put m src dst = some res) :
    Leads Try.prog 31 0 ⟨⟨31, 62, [(0, .agg ⟨[.int .i64 m.Kind, .int .i64 m.Code, .int .i64 m.MTU, .string ⟨⟨m.Quote⟩⟩]⟩), (1, .agg ⟨[.bool src.V6, .int .u64 src.Hi, .int .u64 src.Lo]⟩), (2, .agg ⟨[.bool dst.V6, .int .u64 dst.Hi, .int .u64 dst.Lo]⟩)], [.code k31_15], [], false, none⟩, [], [], 0⟩ (fun v H _ => Res 0 (rx31 res) v H) := by
  unfold icmp_PutF at h
  refine ev_ok tab_ok hS true 3000 ?_
  conv => whnf
  replace h := obind.elim h; obtain ⟨xo, hy, h⟩ := h
  refine sumK.q rfl rfl (r87_eq hy) rfl rfl rfl ?_
  conv => whnf
  refine br.h h ?_ ?_ ?_
  · rfl
  · clear h; intro hb h; conv => whnf
    all_goals (cases h; exact Res.z rfl rfl rfl)
  clear h; intro hb h; conv => whnf
  replace h := obind.elim h; obtain ⟨m1, hy, h⟩ := h
  refine sumK.q rfl rfl (r88_eq hy) rfl rfl rfl ?_
  conv => whnf
  refine br.h h ?_ ?_ ?_
  · rfl
  · clear h; intro hb h; conv => whnf
    all_goals (cases h; exact Res.z rfl rfl rfl)
  clear h; intro hb h; conv => whnf
  replace h := obind.elim h; obtain ⟨t, hy, h⟩ := h
  refine sumK.q rfl rfl (r89_eq hy) rfl rfl rfl ?_
  conv => whnf
  replace h := oreq.elim h; obtain ⟨hb, h⟩ := h
  replace h := obind.elim h; obtain ⟨e, hy, h⟩ := h
  refine ix_T (xs := [udp_Head.mk t.e0.e0 t.e0.e1, udp_Head.mk t.e1.e0 t.e1.e1, udp_Head.mk t.e2.e0 t.e2.e1, udp_Head.mk t.e3.e0 t.e3.e1]) cudp_Head_len hb hy rfl rfl ?_
  conv => whnf
  replace h := obind.elim h; obtain ⟨s, hy, h⟩ := h
  refine sumK.q rfl rfl (r90_eq hy) rfl rfl rfl ?_
  conv => whnf
  replace h := oreq.elim h; obtain ⟨hb, h⟩ := h
  first | (refine req.intro hb ?_; conv => whnf) | skip
  replace h := obind.elim h; obtain ⟨e1, hy, h⟩ := h
  refine rd.I hy (by first | rfl | (rw [Nat.zero_add, Nat.mul_one]; done) | omega) ?_
  conv => whnf
  let t1 : Int := iorI .u64 (wI .u64 ((wI .u64 e1) * 2 ^ 8)) (wI .u64 m.Code)
  replace h := obind.elim h; obtain ⟨p, hy, h⟩ := h
  refine sumK.q rfl rfl (r62_eq hy) rfl rfl rfl ?_
  conv => whnf
  replace h := obind.elim h; obtain ⟨p1, hy, h⟩ := h
  refine sumK.q rfl rfl (r62_eq hy) rfl rfl rfl ?_
  conv => whnf
  replace h := oreq.elim h; obtain ⟨hb, h⟩ := h
  first | (refine req.intro hb ?_; conv => whnf) | skip
  replace h := oreq.elim h; obtain ⟨hb, h⟩ := h
  first | (refine req.intro hb ?_; conv => whnf) | skip
  replace h := oreq.elim h; obtain ⟨hb, h⟩ := h
  first | (refine req.intro hb ?_; conv => whnf) | skip
  replace h := obind.elim h; obtain ⟨xo1, hy, h⟩ := h
  refine sumK.q rfl rfl (r64_eq hy) rfl rfl rfl ?_
  conv => whnf
  replace h := obind.elim h; obtain ⟨s1, hy, h⟩ := h
  refine sumK.q rfl rfl (r65_eq hy) rfl rfl rfl ?_
  conv => whnf
  all_goals (cases h; exact Res.z rfl rfl rfl)
theorem ok31 (check_Of : (List UInt8) → Option Int) (check_Set : (List UInt8) → Int → Int → Int → Option (List UInt8)) (icmp_Message_may : icmp_Message → Bool → Option Bool) (icmp_over : api_Addr → api_Addr → Int → Option ((List UInt8) × Bool)) (icmp_side : Bool → Option Int) (icmp_types : Option Arr4_Arr2_Int) (octet_Put : Int → Int → Option (List UInt8)) (hS : SumsOK Try.prog (aget (sums31 check_Of check_Set icmp_Message_may icmp_over icmp_side icmp_types octet_Put))) : SumOK Try.prog 31 (s31 (icmp_PutF check_Of check_Set icmp_Message_may icmp_over icmp_side icmp_types octet_Put)) := by
  refine SumOK.of_leads tab_ok (fun ar os r ha hr => ?_) ⟨Try.f31, rfl, by decide, rfl⟩
  replace hr : r31 (icmp_PutF check_Of check_Set icmp_Message_may icmp_over icmp_side icmp_types octet_Put) ar (conts os) = some r := hr
  unfold r31 at hr
  generalize hc : conts os = C at hr
  replace hr := dV.elim hr; obtain ⟨v0, l1, y0, rfl, e0, hr⟩ := hr; obtain rfl := uvicmp_Message_eq _ _ e0
  replace hr := dV.elim hr; obtain ⟨v1, l2, y1, rfl, e1, hr⟩ := hr; obtain rfl := uvapi_Addr_eq _ _ e1
  replace hr := dV.elim hr; obtain ⟨v2, l3, y2, rfl, e2, hr⟩ := hr; obtain rfl := uvapi_Addr_eq _ _ e2
  replace hr := dFin hr; obtain ⟨rfl, rfl, x, h, rfl⟩ := hr
  obtain rfl := kinds_nil hc
  exact ⟨_, rfl, leads31 check_Of check_Set icmp_Message_may icmp_over icmp_side icmp_types octet_Put hS _ _ _ x h⟩
def icmp_Put : icmp_Message → api_Addr → api_Addr → Option ((List UInt8) × Int) := icmp_PutF check_Of check_Set icmp_Message_may icmp_over icmp_side icmp_types octet_Put
theorem lift31 : SumOK Try.prog 31 (s31 icmp_Put) := ok31 check_Of check_Set icmp_Message_may icmp_over icmp_side icmp_types octet_Put (SumsOK.of_tab ⟨lift64, lift65, lift88, lift87, lift90, lift89, lift62, trivial⟩)
def icmp_kind_s1 (icmp_fits : Int → Int → Bool → Option Bool) (icmp_side : Bool → Option Int) (typ : Int) (code : Int) (v6 : Bool) (t : Arr4_Arr2_Int) (t10 : Int) : Option (Sum Int Int) :=
  cond (decide (t10 < 4))
    (
    oreq (decide (0 ≤ t10 ∧ t10 < 4)) <|
    ([udp_Head.mk t.e0.e0 t.e0.e1, udp_Head.mk t.e1.e0 t.e1.e1, udp_Head.mk t.e2.e0 t.e2.e1, udp_Head.mk t.e3.e0 t.e3.e1][t10.toNat]?).bind fun (e : udp_Head) =>
    (icmp_side v6).bind fun s =>
    oreq (decide (0 ≤ s ∧ s < 2)) <|
    ([e.SPort, e.DPort][s.toNat]?).bind fun (e1 : Int) =>
    cond (e1 == typ)
      (
      (icmp_fits t10 code v6).bind fun f =>
      cond (f)
        (
        some (.inr (t10)))
        (
        some (.inl (wI .i64 (t10 + 1)))))
      (
      some (.inl (wI .i64 (t10 + 1)))))
    (
    some (.inr (4)))
def icmp_kindF (icmp_fits : Int → Int → Bool → Option Bool) (icmp_side : Bool → Option Int) (icmp_types : Option Arr4_Arr2_Int) (typ : Int) (code : Int) (v6 : Bool) : Option Int :=
  (icmp_types).bind fun t =>
  iter (fun st => icmp_kind_s1 icmp_fits icmp_side typ code v6 t st) FUEL 0
def rx95 (x : Int) : SRes := ⟨.int .i64 x, [], []⟩
def r95 (g : Int → Int → Bool → Option Int) : Dec := dV (asI .i64) fun (y0 : Int) => dV (asI .i64) fun (y1 : Int) => dV asB fun (y2 : Bool) => dEnd (ofG (g y0 y1 y2) rx95)
theorem r95_c {g : Int → Int → Bool → Option Int} {y0 : Int} {y1 : Int} {y2 : Bool} {x : Int} (hx : g y0 y1 y2 = some x) : r95 g [.int .i64 y0, .int .i64 y1, .bool y2] [] = some (rx95 x) := (dV_eq (asI_c _)).trans ((dV_eq (asI_c _)).trans ((dV_eq (asB_c)).trans (ofG_eq hx)))
def s95 (g : Int → Int → Bool → Option Int) : Summ := ⟨[.v, .v, .v], r95 g⟩
theorem r95_eq {g : Int → Int → Bool → Option Int} {y0 : Int} {y1 : Int} {y2 : Bool} {x : Int} (hx : g y0 y1 y2 = some x) : (s95 g).run [.int .i64 y0, .int .i64 y1, .bool y2] [] = some (rx95 x) := r95_c hx
abbrev sums95 (icmp_fits : Int → Int → Bool → Option Bool) (icmp_side : Bool → Option Int) (icmp_types : Option Arr4_Arr2_Int) : List (Nat × Summ) := [(122, s122 icmp_fits), (90, s90 icmp_side), (89, s89 icmp_types)]
def head95_1 (typ : Int) (code : Int) (v6 : Bool) (t : Arr4_Arr2_Int) (t10 : Int) : VM :=
  ⟨⟨95, 28, [(0, .int .i64 typ), (1, .int .i64 code), (2, .bool v6), (9, .agg ⟨[.int .i64 t.e0.e0, .int .i64 t.e0.e1, .int .i64 t.e1.e0, .int .i64 t.e1.e1, .int .i64 t.e2.e0, .int .i64 t.e2.e1, .int .i64 t.e3.e0, .int .i64 t.e3.e1]⟩), (10, .int .i64 t10)], [.code k95_15, .inLoop k95_15, .inBlock 0, .code k95_20], [], false, none⟩, [], [], 0⟩
theorem loop95_1 (icmp_fits : Int → Int → Bool → Option Bool) (icmp_side : Bool → Option Int) (icmp_types : Option Arr4_Arr2_Int) (hS : SumsOK Try.prog (aget (sums95 icmp_fits icmp_side icmp_types))) (typ : Int) (code : Int) (v6 : Bool) (t : Arr4_Arr2_Int) (res : Int) : ∀ fuel (st : Int) (o : Int), iter (fun st => icmp_kind_s1 icmp_fits icmp_side typ code v6 t st) fuel st = some o → (o = res) →
    Leads Try.prog 95 0 (head95_1 typ code v6 t st) (fun v H _ => Res 0 (rx95 res) v H) := by
  intro fuel st o h hc
  refine iter_leads (head := fun st => head95_1 typ code v6 t st) (C := fun o => (o = res)) ?_ fuel st o h hc
  clear h hc o st fuel
  intro t10 o h hc
  replace h : icmp_kind_s1 icmp_fits icmp_side typ code v6 t t10 = some o := h
  show Leads Try.prog 95 0 (head95_1 typ code v6 t t10) (fun v H _ => Res 0 (rx95 res) v H)
  unfold icmp_kind_s1 at h
  refine ev_ok tab_ok hS true 3000 ?_
  conv => whnf
  refine br.h2 h ?_ ?_ ?_
  · rfl
  · clear h; intro hb h; conv => whnf
    all_goals (cases h; cases hc; exact Res.z rfl rfl rfl)
  clear h; intro hb h; conv => whnf
  replace h := oreq.elim h; obtain ⟨hb, h⟩ := h
  replace h := obind.elim h; obtain ⟨e, hy, h⟩ := h
  refine ix_T (xs := [udp_Head.mk t.e0.e0 t.e0.e1, udp_Head.mk t.e1.e0 t.e1.e1, udp_Head.mk t.e2.e0 t.e2.e1, udp_Head.mk t.e3.e0 t.e3.e1]) cudp_Head_len hb hy rfl rfl ?_
  conv => whnf
  replace h := obind.elim h; obtain ⟨s, hy, h⟩ := h
  refine sumK.q rfl rfl (r90_eq hy) rfl rfl rfl ?_
  conv => whnf
  replace h := oreq.elim h; obtain ⟨hb, h⟩ := h
  first | (refine req.intro hb ?_; conv => whnf) | skip
  replace h := obind.elim h; obtain ⟨e1, hy, h⟩ := h
  refine rd.intro (rdlI hy (by first | rfl | (rw [Nat.zero_add, Nat.mul_one]; done) | omega)) ?_
  conv => whnf
  refine br.h2 h ?_ ?_ ?_
  · rfl
  · clear h; intro hb h; conv => whnf
    cases h; simp only [Sum.elim_inl, head95_1] at hc
    refine Leads.re hc [] rfl ?_ ?_ <;> (repeat' first | exact trivial | refine ⟨⟨_, rfl, rfl⟩, ?_⟩ | refine ⟨⟨_, _, rfl, rfl, .rowF (vI_flat _ _) id⟩, ?_⟩ | refine ⟨⟨_, _, rfl, rfl, .rowF (vS_flat _) id⟩, ?_⟩ | refine ⟨⟨_, _, rfl, rfl, .rowF (vB_flat _) id⟩, ?_⟩ | refine ⟨⟨_, _, rfl, rfl, .rowF (vT_flat (by first | exact cicmp_Message_flat | exact capi_Addr_flat | exact coctet_Reader_flat | exact cArr2_Int_flat | exact cArr4_Arr2_Int_flat | exact cruntime_errorAddressString_flat | exact cudp_Head_flat | exact cipsix_Head_flat | exact cipfour_Head_flat | exact capi_Tuple_flat | exact ctcp_Head_flat) _) id⟩, ?_⟩ | refine ⟨⟨_, _, rfl, rfl, .tyF (vI_flat _ _)⟩, ?_⟩ | refine ⟨⟨_, _, rfl, rfl, .ty rfl⟩, ?_⟩ | refine ⟨⟨_, _, rfl, rfl, .cells rfl⟩, ?_⟩ | refine ⟨⟨_, _, rfl, rfl, .row rfl id⟩, ?_⟩ | refine ⟨⟨_, _, rfl, rfl, .cr rfl⟩, ?_⟩ | refine ⟨⟨_, _, rfl, rfl, .rc rfl⟩, ?_⟩ | refine ⟨⟨_, _, rfl, rfl, .marks⟩, ?_⟩ | refine ⟨⟨_, _, rfl, rfl, .siter _ _⟩, ?_⟩ | refine ⟨⟨_, _, rfl, rfl, .loop rfl rfl rfl rfl (by repeat' first | exact trivial | refine ⟨rfl, ?_⟩) rfl rfl rfl rfl⟩, ?_⟩)
  clear h; intro hb h; conv => whnf
  replace h := obind.elim h; obtain ⟨f, hy, h⟩ := h
  refine sumK.q rfl rfl (r122_eq hy) rfl rfl rfl ?_
  conv => whnf
  refine br.h h ?_ ?_ ?_
  · rfl
  · clear h; intro hb h; conv => whnf
    all_goals (cases h; cases hc; exact Res.z rfl rfl rfl)
  clear h; intro hb h; conv => whnf
  cases h; simp only [Sum.elim_inl, head95_1] at hc
  refine Leads.re hc [] rfl ?_ ?_ <;> (repeat' first | exact trivial | refine ⟨⟨_, rfl, rfl⟩, ?_⟩ | refine ⟨⟨_, _, rfl, rfl, .rowF (vI_flat _ _) id⟩, ?_⟩ | refine ⟨⟨_, _, rfl, rfl, .rowF (vS_flat _) id⟩, ?_⟩ | refine ⟨⟨_, _, rfl, rfl, .rowF (vB_flat _) id⟩, ?_⟩ | refine ⟨⟨_, _, rfl, rfl, .rowF (vT_flat (by first | exact cicmp_Message_flat | exact capi_Addr_flat | exact coctet_Reader_flat | exact cArr2_Int_flat | exact cArr4_Arr2_Int_flat | exact cruntime_errorAddressString_flat | exact cudp_Head_flat | exact cipsix_Head_flat | exact cipfour_Head_flat | exact capi_Tuple_flat | exact ctcp_Head_flat) _) id⟩, ?_⟩ | refine ⟨⟨_, _, rfl, rfl, .tyF (vI_flat _ _)⟩, ?_⟩ | refine ⟨⟨_, _, rfl, rfl, .ty rfl⟩, ?_⟩ | refine ⟨⟨_, _, rfl, rfl, .cells rfl⟩, ?_⟩ | refine ⟨⟨_, _, rfl, rfl, .row rfl id⟩, ?_⟩ | refine ⟨⟨_, _, rfl, rfl, .cr rfl⟩, ?_⟩ | refine ⟨⟨_, _, rfl, rfl, .rc rfl⟩, ?_⟩ | refine ⟨⟨_, _, rfl, rfl, .marks⟩, ?_⟩ | refine ⟨⟨_, _, rfl, rfl, .siter _ _⟩, ?_⟩ | refine ⟨⟨_, _, rfl, rfl, .loop rfl rfl rfl rfl (by repeat' first | exact trivial | refine ⟨rfl, ?_⟩) rfl rfl rfl rfl⟩, ?_⟩)
theorem leads95 (icmp_fits : Int → Int → Bool → Option Bool) (icmp_side : Bool → Option Int) (icmp_types : Option Arr4_Arr2_Int) (hS : SumsOK Try.prog (aget (sums95 icmp_fits icmp_side icmp_types))) (typ : Int) (code : Int) (v6 : Bool) (res : Int) (h : icmp_kindF icmp_fits icmp_side icmp_types typ code v6 = some res) :
    Leads Try.prog 95 0 ⟨⟨95, 28, [(0, .int .i64 typ), (1, .int .i64 code), (2, .bool v6)], [.code k95_22], [], false, none⟩, [], [], 0⟩ (fun v H _ => Res 0 (rx95 res) v H) := by
  unfold icmp_kindF at h
  refine ev_ok tab_ok hS true 3000 ?_
  conv => whnf
  replace h := obind.elim h; obtain ⟨t, hy, h⟩ := h
  refine sumK.q rfl rfl (r89_eq hy) rfl rfl rfl ?_
  conv => whnf
  have hl := loop95_1 icmp_fits icmp_side icmp_types hS _ _ _ _ res _ _ _ h rfl; simp only [head95_1] at hl
  refine Leads.re hl [] rfl ?_ ?_ <;> (repeat' first | exact trivial | refine ⟨⟨_, rfl, rfl⟩, ?_⟩ | refine ⟨⟨_, _, rfl, rfl, .rowF (vI_flat _ _) id⟩, ?_⟩ | refine ⟨⟨_, _, rfl, rfl, .rowF (vS_flat _) id⟩, ?_⟩ | refine ⟨⟨_, _, rfl, rfl, .rowF (vB_flat _) id⟩, ?_⟩ | refine ⟨⟨_, _, rfl, rfl, .rowF (vT_flat (by first | exact cicmp_Message_flat | exact capi_Addr_flat | exact coctet_Reader_flat | exact cArr2_Int_flat | exact cArr4_Arr2_Int_flat | exact cruntime_errorAddressString_flat | exact cudp_Head_flat | exact cipsix_Head_flat | exact cipfour_Head_flat | exact capi_Tuple_flat | exact ctcp_Head_flat) _) id⟩, ?_⟩ | refine ⟨⟨_, _, rfl, rfl, .tyF (vI_flat _ _)⟩, ?_⟩ | refine ⟨⟨_, _, rfl, rfl, .ty rfl⟩, ?_⟩ | refine ⟨⟨_, _, rfl, rfl, .cells rfl⟩, ?_⟩ | refine ⟨⟨_, _, rfl, rfl, .row rfl id⟩, ?_⟩ | refine ⟨⟨_, _, rfl, rfl, .cr rfl⟩, ?_⟩ | refine ⟨⟨_, _, rfl, rfl, .rc rfl⟩, ?_⟩ | refine ⟨⟨_, _, rfl, rfl, .marks⟩, ?_⟩ | refine ⟨⟨_, _, rfl, rfl, .siter _ _⟩, ?_⟩ | refine ⟨⟨_, _, rfl, rfl, .loop rfl rfl rfl rfl (by repeat' first | exact trivial | refine ⟨rfl, ?_⟩) rfl rfl rfl rfl⟩, ?_⟩)
theorem ok95 (icmp_fits : Int → Int → Bool → Option Bool) (icmp_side : Bool → Option Int) (icmp_types : Option Arr4_Arr2_Int) (hS : SumsOK Try.prog (aget (sums95 icmp_fits icmp_side icmp_types))) : SumOK Try.prog 95 (s95 (icmp_kindF icmp_fits icmp_side icmp_types)) := by
  refine SumOK.of_leads tab_ok (fun ar os r ha hr => ?_) ⟨Try.f95, rfl, by decide, rfl⟩
  replace hr : r95 (icmp_kindF icmp_fits icmp_side icmp_types) ar (conts os) = some r := hr
  unfold r95 at hr
  generalize hc : conts os = C at hr
  replace hr := dV.elim hr; obtain ⟨v0, l1, y0, rfl, e0, hr⟩ := hr; obtain rfl := asI_eq _ _ _ e0
  replace hr := dV.elim hr; obtain ⟨v1, l2, y1, rfl, e1, hr⟩ := hr; obtain rfl := asI_eq _ _ _ e1
  replace hr := dV.elim hr; obtain ⟨v2, l3, y2, rfl, e2, hr⟩ := hr; obtain rfl := asB_eq _ _ e2
  replace hr := dFin hr; obtain ⟨rfl, rfl, x, h, rfl⟩ := hr
  obtain rfl := kinds_nil hc
  exact ⟨_, rfl, leads95 icmp_fits icmp_side icmp_types hS _ _ _ x h⟩
def icmp_kind : Int → Int → Bool → Option Int := icmp_kindF icmp_fits icmp_side icmp_types
theorem lift95 : SumOK Try.prog 95 (s95 icmp_kind) := ok95 icmp_fits icmp_side icmp_types (SumsOK.of_tab ⟨lift122, lift90, lift89, trivial⟩)
def octet_Reader_RestF (octet_Reader_Bad : octet_Reader → Option (Bool × octet_Reader)) (octet_Reader_Text : octet_Reader → Int → Option ((List UInt8) × octet_Reader)) (ra0 : octet_Reader) : Option ((List UInt8) × octet_Reader) :=
  (octet_Reader_Bad ra0).bind fun b =>
  cond (b.1)
    (
    some (([], b.2)))
    (
    (octet_Reader_Text b.2 (b.2.s.length : Int)).bind fun t =>
    some ((t.1, t.2)))
def rx96 (x : (List UInt8) × octet_Reader) : SRes := ⟨.string ⟨⟨x.1⟩⟩, [], [some [.string ⟨⟨x.2.s⟩⟩, .bool x.2.made, .bool x.2.bad]]⟩
def r96 (g : octet_Reader → Option ((List UInt8) × octet_Reader)) : Dec := dPt 0 unoctet_Reader fun (y0 : octet_Reader) => dEnd (ofG (g y0) rx96)
theorem r96_c {g : octet_Reader → Option ((List UInt8) × octet_Reader)} {y0 : octet_Reader} {x : (List UInt8) × octet_Reader} (hx : g y0 = some x) : r96 g [.pointer (some ⟨0, 0, none⟩)] [some [.string ⟨⟨y0.s⟩⟩, .bool y0.made, .bool y0.bad]] = some (rx96 x) := (dPt_eq (unoctet_Reader_c _)).trans (ofG_eq hx)
def s96 (g : octet_Reader → Option ((List UInt8) × octet_Reader)) : Summ := ⟨[.pt 3], r96 g⟩
theorem r96_eq {g : octet_Reader → Option ((List UInt8) × octet_Reader)} {y0 : octet_Reader} {x : (List UInt8) × octet_Reader} (hx : g y0 = some x) : (s96 g).run [.pointer (some ⟨0, 0, none⟩)] [some [.string ⟨⟨y0.s⟩⟩, .bool y0.made, .bool y0.bad]] = some (rx96 x) := r96_c hx
abbrev sums96 (octet_Reader_Bad : octet_Reader → Option (Bool × octet_Reader)) (octet_Reader_Text : octet_Reader → Int → Option ((List UInt8) × octet_Reader)) : List (Nat × Summ) := [(72, s72 octet_Reader_Bad), (83, s83 octet_Reader_Text)]
theorem leads96 (octet_Reader_Bad : octet_Reader → Option (Bool × octet_Reader)) (octet_Reader_Text : octet_Reader → Int → Option ((List UInt8) × octet_Reader)) (hS : SumsOK Try.prog (aget (sums96 octet_Reader_Bad octet_Reader_Text))) (ra0 : octet_Reader) (res : (List UInt8) × octet_Reader) (h : octet_Reader_RestF octet_Reader_Bad octet_Reader_Text ra0 = some res) :
    Leads Try.prog 96 1 ⟨⟨96, 12, [(0, .pointer (some ⟨0, 0, none⟩))], [.code k96_9], [], false, none⟩, [], [(0, .cells [.string ⟨⟨ra0.s⟩⟩, .bool ra0.made, .bool ra0.bad])], 1⟩ (fun v H _ => Res 1 (rx96 res) v H) := by
  unfold octet_Reader_RestF at h
  refine ev_ok tab_ok hS true 3000 ?_
  conv => whnf
  replace h := obind.elim h; obtain ⟨b, hy, h⟩ := h
  refine sumK.introF [0] (sumRun_of (aqs := [.pointer (some ⟨0, 0, none⟩)]) (ws := [.win 0 0 3 true]) (n := 0) (m := 0) (t' := 1) (ra_cons rfl rfl ra_nil) rfl (by rfl) (r72_eq hy) rfl rfl rfl rfl (wb_win rfl rfl rfl ⟨rfl, Nat.le_of_ble_eq_true rfl⟩ rfl rfl wb_nil) an_nil rfl) ?_
  conv => whnf
  refine br.h h ?_ ?_ ?_
  · rfl
  · clear h; intro hb h; conv => whnf
    all_goals (cases h)
    all_goals exact Res.of [] rfl nw_0 (by decide) js_0 (wr_s (rfl) (hs_cells rfl) wr_0)
  clear h; intro hb h; conv => whnf
  replace h := obind.elim h; obtain ⟨t, hy, h⟩ := h
  refine sumK.introF [0] (sumRun_of (aqs := [.pointer (some ⟨0, 0, none⟩), .int .i64 (b.2.s.length : Int)]) (ws := [.win 0 0 3 true]) (n := 0) (m := 0) (t' := 1) (ra_cons rfl rfl (ra_cons rfl rfl ra_nil)) rfl (by rfl) (r83_eq hy) rfl rfl rfl rfl (wb_win rfl rfl rfl ⟨rfl, Nat.le_of_ble_eq_true rfl⟩ rfl rfl wb_nil) an_nil rfl) ?_
  conv => whnf
  all_goals (cases h)
  all_goals exact Res.of [] rfl nw_0 (by decide) js_0 (wr_s (rfl) (hs_cells rfl) wr_0)
theorem ok96 (octet_Reader_Bad : octet_Reader → Option (Bool × octet_Reader)) (octet_Reader_Text : octet_Reader → Int → Option ((List UInt8) × octet_Reader)) (hS : SumsOK Try.prog (aget (sums96 octet_Reader_Bad octet_Reader_Text))) : SumOK Try.prog 96 (s96 (octet_Reader_RestF octet_Reader_Bad octet_Reader_Text)) := by
  refine SumOK.of_leads tab_ok (fun ar os r ha hr => ?_) ⟨Try.f96, rfl, by decide, rfl⟩
  replace hr : r96 (octet_Reader_RestF octet_Reader_Bad octet_Reader_Text) ar (conts os) = some r := hr
  unfold r96 at hr
  generalize hc : conts os = C at hr
  have hq := dPt.elim hr; clear hr; obtain ⟨c0, l1, C, y0, rfl, rfl, e0, hr⟩ := hq; obtain rfl := unoctet_Reader_eq _ _ e0
  replace hr := dFin hr; obtain ⟨rfl, rfl, x, h, rfl⟩ := hr
  obtain ⟨os, rfl, ha, hc⟩ := kinds_some ha hc
  obtain rfl := kinds_nil hc
  exact ⟨_, rfl, leads96 octet_Reader_Bad octet_Reader_Text hS _ x h⟩
def octet_Reader_Rest : octet_Reader → Option ((List UInt8) × octet_Reader) := octet_Reader_RestF octet_Reader_Bad octet_Reader_Text
theorem lift96 : SumOK Try.prog 96 (s96 octet_Reader_Rest) := ok96 octet_Reader_Bad octet_Reader_Text (SumsOK.of_tab ⟨lift72, lift83, trivial⟩)
def icmp_GetF (check_Right : (List UInt8) → Option Bool) (icmp_kind : Int → Int → Bool → Option Int) (icmp_over : api_Addr → api_Addr → Int → Option ((List UInt8) × Bool)) (octet_New : (List UInt8) → Option octet_Reader) (octet_Reader_Num : octet_Reader → Int → Option (Int × octet_Reader)) (octet_Reader_Rest : octet_Reader → Option ((List UInt8) × octet_Reader)) (s : List UInt8) (src : api_Addr) (dst : api_Addr) : Option (icmp_Message × Int) :=
  cond (decide ((s.length : Int) < 8))
    (
    some ((icmp_Message.mk 0 0 0 [], 2)))
    (
    (icmp_over src dst (s.length : Int)).bind fun xo =>
    cond (!xo.2)
      (
      some ((icmp_Message.mk 0 0 0 [], 1)))
      (
      oreq (decide (xo.1.length + s.length < 2 ^ 63)) <|
      (check_Right (xo.1 ++ s)).bind fun xr =>
      cond (!xr)
        (
        some ((icmp_Message.mk 0 0 0 [], 4)))
        (
        cond (decide ((s.length : Int) > 1240))
          (
          some ((icmp_Message.mk 0 0 0 [], 5)))
          (
          (octet_New s).bind fun n =>
          (octet_Reader_Num n 1).bind fun n1 =>
          (octet_Reader_Num n1.2 1).bind fun n2 =>
          (octet_Reader_Num n2.2 4).bind fun n3 =>
          (icmp_kind n1.1 n2.1 src.V6).bind fun k =>
          (octet_Reader_Num n3.2 2).bind fun n4 =>
          cond (k == 2)
            (
            (octet_Reader_Rest n4.2).bind fun xr1 =>
            some ((icmp_Message.mk k n2.1 n4.1 xr1.1, 0)))
            (
            (octet_Reader_Rest n4.2).bind fun xr2 =>
            some ((icmp_Message.mk k n2.1 0 xr2.1, 0)))))))
def rx34 (x : icmp_Message × Int) : SRes := ⟨.tuple ⟨[.agg ⟨[.int .i64 x.1.Kind, .int .i64 x.1.Code, .int .i64 x.1.MTU, .string ⟨⟨x.1.Quote⟩⟩]⟩, .int .i64 x.2]⟩, [], []⟩
def r34 (g : (List UInt8) → api_Addr → api_Addr → Option (icmp_Message × Int)) : Dec := dV asS fun (y0 : List UInt8) => dV uvapi_Addr fun (y1 : api_Addr) => dV uvapi_Addr fun (y2 : api_Addr) => dEnd (ofG (g y0 y1 y2) rx34)
theorem r34_c {g : (List UInt8) → api_Addr → api_Addr → Option (icmp_Message × Int)} {y0 : List UInt8} {y1 : api_Addr} {y2 : api_Addr} {x : icmp_Message × Int} (hx : g y0 y1 y2 = some x) : r34 g [.string ⟨⟨y0⟩⟩, .agg ⟨[.bool y1.V6, .int .u64 y1.Hi, .int .u64 y1.Lo]⟩, .agg ⟨[.bool y2.V6, .int .u64 y2.Hi, .int .u64 y2.Lo]⟩] [] = some (rx34 x) := (dV_eq (asS_c)).trans ((dV_eq (uvapi_Addr_c _)).trans ((dV_eq (uvapi_Addr_c _)).trans (ofG_eq hx)))
def s34 (g : (List UInt8) → api_Addr → api_Addr → Option (icmp_Message × Int)) : Summ := ⟨[.v, .v, .v], r34 g⟩
theorem r34_eq {g : (List UInt8) → api_Addr → api_Addr → Option (icmp_Message × Int)} {y0 : List UInt8} {y1 : api_Addr} {y2 : api_Addr} {x : icmp_Message × Int} (hx : g y0 y1 y2 = some x) : (s34 g).run [.string ⟨⟨y0⟩⟩, .agg ⟨[.bool y1.V6, .int .u64 y1.Hi, .int .u64 y1.Lo]⟩, .agg ⟨[.bool y2.V6, .int .u64 y2.Hi, .int .u64 y2.Lo]⟩] [] = some (rx34 x) := r34_c hx
abbrev sums34 (check_Right : (List UInt8) → Option Bool) (icmp_kind : Int → Int → Bool → Option Int) (icmp_over : api_Addr → api_Addr → Int → Option ((List UInt8) × Bool)) (octet_New : (List UInt8) → Option octet_Reader) (octet_Reader_Num : octet_Reader → Int → Option (Int × octet_Reader)) (octet_Reader_Rest : octet_Reader → Option ((List UInt8) × octet_Reader)) : List (Nat × Summ) := [(73, s73 check_Right), (95, s95 icmp_kind), (87, s87 icmp_over), (70, s70 octet_New), (71, s71 octet_Reader_Num), (96, s96 octet_Reader_Rest)]
theorem leads34 (check_Right : (List UInt8) → Option Bool) (icmp_kind : Int → Int → Bool → Option Int) (icmp_over : api_Addr → api_Addr → Int → Option ((List UInt8) × Bool)) (octet_New : (List UInt8) → Option octet_Reader) (octet_Reader_Num : octet_Reader → Int → Option (Int × octet_Reader)) (octet_Reader_Rest : octet_Reader → Option ((List UInt8) × octet_Reader)) (hS : SumsOK Try.prog (aget (sums34 check_Right icmp_kind icmp_over octet_New octet_Reader_Num octet_Reader_Rest))) (s : List UInt8) (src : api_Addr) (dst : api_Addr) (res : icmp_Message × Int) (h : icmp_GetF check_Right icmp_kind icmp_over octet_New octet_Reader_Num octet_Reader_Rest s src dst = some res) :
    Leads Try.prog 34 0 ⟨⟨34, 69, [(0, .string ⟨⟨s⟩⟩), (1, .agg ⟨[.bool src.V6, .int .u64 src.Hi, .int .u64 src.Lo]⟩), (2, .agg ⟨[.bool dst.V6, .int .u64 dst.Hi, .int .u64 dst.Lo]⟩)], [.code k34_45], [], false, none⟩, [], [], 0⟩ (fun v H _ => Res 0 (rx34 res) v H) := by
  unfold icmp_GetF at h
  refine ev_ok tab_ok hS true 3000 ?_
  conv => whnf
  refine br.h h ?_ ?_ ?_
  · rfl
  · clear h; intro hb h; conv => whnf
    all_goals (cases h; exact Res.z rfl rfl rfl)
  clear h; intro hb h; conv => whnf
  replace h := obind.elim h; obtain ⟨xo, hy, h⟩ := h
  refine sumK.q rfl rfl (r87_eq hy) rfl rfl rfl ?_
  conv => whnf
  refine br.h h ?_ ?_ ?_
  · rfl
  · clear h; intro hb h; conv => whnf
    all_goals (cases h; exact Res.z rfl rfl rfl)
  clear h; intro hb h; conv => whnf
  replace h := oreq.elim h; obtain ⟨hb, h⟩ := h
  first | (refine req.intro hb ?_; conv => whnf) | skip
  replace h := obind.elim h; obtain ⟨xr, hy, h⟩ := h
  refine sumK.q rfl rfl (r73_eq hy) rfl rfl rfl ?_
  conv => whnf
  refine br.h h ?_ ?_ ?_
  · rfl
  · clear h; intro hb h; conv => whnf
    all_goals (cases h; exact Res.z rfl rfl rfl)
  clear h; intro hb h; conv => whnf
  refine br.h h ?_ ?_ ?_
  · rfl
  · clear h; intro hb h; conv => whnf
    all_goals (cases h; exact Res.z rfl rfl rfl)
  clear h; intro hb h; conv => whnf
  replace h := obind.elim h; obtain ⟨n, hy, h⟩ := h
  refine sumK.introF [3] (sumRun_of (aqs := [.string ⟨⟨s⟩⟩]) (ws := []) (n := 1) (m := 0) (t' := 4) (ra_cons rfl rfl ra_nil) rfl (by rfl) (r70_eq hy) rfl rfl rfl rfl wb_nil (an_cons (rfl) an_nil) rfl) ?_
  conv => whnf
  replace h := obind.elim h; obtain ⟨n1, hy, h⟩ := h
  refine sumK.introF [3] (sumRun_of (aqs := [.pointer (some ⟨0, 0, none⟩), .int .i64 1]) (ws := [.win 3 0 3 true]) (n := 0) (m := 0) (t' := 4) (ra_cons rfl rfl (ra_cons rfl rfl ra_nil)) rfl (by rfl) (r71_eq hy) rfl rfl rfl rfl (wb_win rfl rfl rfl ⟨rfl, Nat.le_of_ble_eq_true rfl⟩ rfl rfl wb_nil) an_nil rfl) ?_
  conv => whnf
  replace h := obind.elim h; obtain ⟨n2, hy, h⟩ := h
  refine sumK.introF [3] (sumRun_of (aqs := [.pointer (some ⟨0, 0, none⟩), .int .i64 1]) (ws := [.win 3 0 3 true]) (n := 0) (m := 0) (t' := 4) (ra_cons rfl rfl (ra_cons rfl rfl ra_nil)) rfl (by rfl) (r71_eq hy) rfl rfl rfl rfl (wb_win rfl rfl rfl ⟨rfl, Nat.le_of_ble_eq_true rfl⟩ rfl rfl wb_nil) an_nil rfl) ?_
  conv => whnf
  replace h := obind.elim h; obtain ⟨n3, hy, h⟩ := h
  refine sumK.introF [3] (sumRun_of (aqs := [.pointer (some ⟨0, 0, none⟩), .int .i64 4]) (ws := [.win 3 0 3 true]) (n := 0) (m := 0) (t' := 4) (ra_cons rfl rfl (ra_cons rfl rfl ra_nil)) rfl (by rfl) (r71_eq hy) rfl rfl rfl rfl (wb_win rfl rfl rfl ⟨rfl, Nat.le_of_ble_eq_true rfl⟩ rfl rfl wb_nil) an_nil rfl) ?_
  conv => whnf
  replace h := obind.elim h; obtain ⟨k, hy, h⟩ := h
  refine sumK.q rfl rfl (r95_eq hy) rfl rfl rfl ?_
  conv => whnf
  replace h := obind.elim h; obtain ⟨n4, hy, h⟩ := h
  refine sumK.introF [3] (sumRun_of (aqs := [.pointer (some ⟨0, 0, none⟩), .int .i64 2]) (ws := [.win 3 0 3 true]) (n := 0) (m := 0) (t' := 5) (ra_cons rfl rfl (ra_cons rfl rfl ra_nil)) rfl (by rfl) (r71_eq hy) rfl rfl rfl rfl (wb_win rfl rfl rfl ⟨rfl, Nat.le_of_ble_eq_true rfl⟩ rfl rfl wb_nil) an_nil rfl) ?_
  conv => whnf
  refine br.h h ?_ ?_ ?_
  · rfl
  · clear h; intro hb h; conv => whnf
    replace h := obind.elim h; obtain ⟨xr1, hy, h⟩ := h
    refine sumK.introF [3] (sumRun_of (aqs := [.pointer (some ⟨0, 0, none⟩)]) (ws := [.win 3 0 3 true]) (n := 0) (m := 0) (t' := 5) (ra_cons rfl rfl ra_nil) rfl (by rfl) (r96_eq hy) rfl rfl rfl rfl (wb_win rfl rfl rfl ⟨rfl, Nat.le_of_ble_eq_true rfl⟩ rfl rfl wb_nil) an_nil rfl) ?_
    conv => whnf
    all_goals (cases h; exact Res.z rfl rfl rfl)
  clear h; intro hb h; conv => whnf
  replace h := obind.elim h; obtain ⟨xr2, hy, h⟩ := h
  refine sumK.introF [3] (sumRun_of (aqs := [.pointer (some ⟨0, 0, none⟩)]) (ws := [.win 3 0 3 true]) (n := 0) (m := 0) (t' := 5) (ra_cons rfl rfl ra_nil) rfl (by rfl) (r96_eq hy) rfl rfl rfl rfl (wb_win rfl rfl rfl ⟨rfl, Nat.le_of_ble_eq_true rfl⟩ rfl rfl wb_nil) an_nil rfl) ?_
  conv => whnf
  all_goals (cases h; exact Res.z rfl rfl rfl)
theorem ok34 (check_Right : (List UInt8) → Option Bool) (icmp_kind : Int → Int → Bool → Option Int) (icmp_over : api_Addr → api_Addr → Int → Option ((List UInt8) × Bool)) (octet_New : (List UInt8) → Option octet_Reader) (octet_Reader_Num : octet_Reader → Int → Option (Int × octet_Reader)) (octet_Reader_Rest : octet_Reader → Option ((List UInt8) × octet_Reader)) (hS : SumsOK Try.prog (aget (sums34 check_Right icmp_kind icmp_over octet_New octet_Reader_Num octet_Reader_Rest))) : SumOK Try.prog 34 (s34 (icmp_GetF check_Right icmp_kind icmp_over octet_New octet_Reader_Num octet_Reader_Rest)) := by
  refine SumOK.of_leads tab_ok (fun ar os r ha hr => ?_) ⟨Try.f34, rfl, by decide, rfl⟩
  replace hr : r34 (icmp_GetF check_Right icmp_kind icmp_over octet_New octet_Reader_Num octet_Reader_Rest) ar (conts os) = some r := hr
  unfold r34 at hr
  generalize hc : conts os = C at hr
  replace hr := dV.elim hr; obtain ⟨v0, l1, y0, rfl, e0, hr⟩ := hr; obtain rfl := asS_eq _ _ e0
  replace hr := dV.elim hr; obtain ⟨v1, l2, y1, rfl, e1, hr⟩ := hr; obtain rfl := uvapi_Addr_eq _ _ e1
  replace hr := dV.elim hr; obtain ⟨v2, l3, y2, rfl, e2, hr⟩ := hr; obtain rfl := uvapi_Addr_eq _ _ e2
  replace hr := dFin hr; obtain ⟨rfl, rfl, x, h, rfl⟩ := hr
  obtain rfl := kinds_nil hc
  exact ⟨_, rfl, leads34 check_Right icmp_kind icmp_over octet_New octet_Reader_Num octet_Reader_Rest hS _ _ _ x h⟩
def icmp_Get : (List UInt8) → api_Addr → api_Addr → Option (icmp_Message × Int) := icmp_GetF check_Right icmp_kind icmp_over octet_New octet_Reader_Num octet_Reader_Rest
theorem lift34 : SumOK Try.prog 34 (s34 icmp_Get) := ok34 check_Right icmp_kind icmp_over octet_New octet_Reader_Num octet_Reader_Rest (SumsOK.of_tab ⟨lift73, lift95, lift87, lift70, lift71, lift96, trivial⟩)
def law53_awakeF (icmp_Get : (List UInt8) → api_Addr → api_Addr → Option (icmp_Message × Int)) (icmp_Put : icmp_Message → api_Addr → api_Addr → Option ((List UInt8) × Int)) : Option Bool :=
  (icmp_Get [] (api_Addr.mk false 0 0) (api_Addr.mk false 0 0)).bind fun xg =>
  (icmp_Put (icmp_Message.mk 2 4 1400 []) (api_Addr.mk false 0 1) (api_Addr.mk false 0 2)).bind fun p =>
  (icmp_Get p.1 (api_Addr.mk false 0 1) (api_Addr.mk false 0 2)).bind fun xg1 =>
  cond (xg.2 == 2)
    (
    cond (p.2 == 0)
      (
      cond ((p.1.length : Int) == 8)
        (
        cond (xg1.2 == 0)
          (
          cond (xg1.1.MTU == 1400)
            (
            cond (xg1.1.Kind == 2)
              (
              some (true))
              (
              some (false)))
            (
            some (false)))
          (
          some (false)))
        (
        some (false)))
      (
      some (false)))
    (
    some (false))
def rx30 (x : Bool) : SRes := ⟨.bool x, [], []⟩
def r30 (g : Option Bool) : Dec := dEnd (ofG (g) rx30)
theorem r30_c {g : Option Bool} {x : Bool} (hx : g = some x) : r30 g [] [] = some (rx30 x) := ofG_eq hx
def s30 (g : Option Bool) : Summ := ⟨[], r30 g⟩
theorem r30_eq {g : Option Bool} {x : Bool} (hx : g = some x) : (s30 g).run [] [] = some (rx30 x) := r30_c hx
abbrev sums30 (icmp_Get : (List UInt8) → api_Addr → api_Addr → Option (icmp_Message × Int)) (icmp_Put : icmp_Message → api_Addr → api_Addr → Option ((List UInt8) × Int)) : List (Nat × Summ) := [(34, s34 icmp_Get), (31, s31 icmp_Put)]
theorem leads30 (icmp_Get : (List UInt8) → api_Addr → api_Addr → Option (icmp_Message × Int)) (icmp_Put : icmp_Message → api_Addr → api_Addr → Option ((List UInt8) × Int)) (hS : SumsOK Try.prog (aget (sums30 icmp_Get icmp_Put))) (res : Bool) (h : law53_awakeF icmp_Get icmp_Put = some res) :
    Leads Try.prog 30 0 ⟨⟨30, 54, [], [.code k30_9], [], false, none⟩, [], [], 0⟩ (fun v H _ => Res 0 (rx30 res) v H) := by
  unfold law53_awakeF at h
  refine ev_ok tab_ok hS true 3000 ?_
  conv => whnf
  replace h := obind.elim h; obtain ⟨xg, hy, h⟩ := h
  refine sumK.q rfl rfl (r34_eq hy) rfl rfl rfl ?_
  conv => whnf
  replace h := obind.elim h; obtain ⟨p, hy, h⟩ := h
  refine sumK.q rfl rfl (r31_eq hy) rfl rfl rfl ?_
  conv => whnf
  replace h := obind.elim h; obtain ⟨xg1, hy, h⟩ := h
  refine sumK.q rfl rfl (r34_eq hy) rfl rfl rfl ?_
  conv => whnf
  refine br.h2 h ?_ ?_ ?_
  · rfl
  · clear h; intro hb h; conv => whnf
    all_goals (cases h; exact Res.z rfl rfl rfl)
  clear h; intro hb h; conv => whnf
  refine br.h2 h ?_ ?_ ?_
  · rfl
  · clear h; intro hb h; conv => whnf
    all_goals (cases h; exact Res.z rfl rfl rfl)
  clear h; intro hb h; conv => whnf
  refine br.h2 h ?_ ?_ ?_
  · rfl
  · clear h; intro hb h; conv => whnf
    all_goals (cases h; exact Res.z rfl rfl rfl)
  clear h; intro hb h; conv => whnf
  refine br.h2 h ?_ ?_ ?_
  · rfl
  · clear h; intro hb h; conv => whnf
    all_goals (cases h; exact Res.z rfl rfl rfl)
  clear h; intro hb h; conv => whnf
  refine br.h2 h ?_ ?_ ?_
  · rfl
  · clear h; intro hb h; conv => whnf
    all_goals (cases h; exact Res.z rfl rfl rfl)
  clear h; intro hb h; conv => whnf
  refine br.h h ?_ ?_ ?_
  · rfl
  · clear h; intro hb h; conv => whnf
    all_goals (cases h; exact Res.z rfl rfl rfl)
  clear h; intro hb h; conv => whnf
  all_goals (cases h; exact Res.z rfl rfl rfl)
theorem ok30 (icmp_Get : (List UInt8) → api_Addr → api_Addr → Option (icmp_Message × Int)) (icmp_Put : icmp_Message → api_Addr → api_Addr → Option ((List UInt8) × Int)) (hS : SumsOK Try.prog (aget (sums30 icmp_Get icmp_Put))) : SumOK Try.prog 30 (s30 (law53_awakeF icmp_Get icmp_Put)) := by
  refine SumOK.of_leads tab_ok (fun ar os r ha hr => ?_) ⟨Try.f30, rfl, by decide, rfl⟩
  replace hr : r30 (law53_awakeF icmp_Get icmp_Put) ar (conts os) = some r := hr
  unfold r30 at hr
  generalize hc : conts os = C at hr
  replace hr := dFin hr; obtain ⟨rfl, rfl, x, h, rfl⟩ := hr
  obtain rfl := kinds_nil hc
  exact ⟨_, rfl, leads30 icmp_Get icmp_Put hS x h⟩
def law53_awake : Option Bool := law53_awakeF icmp_Get icmp_Put
theorem lift30 : SumOK Try.prog 30 (s30 law53_awake) := ok30 icmp_Get icmp_Put (SumsOK.of_tab ⟨lift34, lift31, trivial⟩)
def R13_inF (n : Int) (most : Int) : Option Bool :=
  cond (decide (n ≥ 0))
    (
    some (decide (n ≤ most)))
    (
    some (false))
def rx104 (x : Bool) : SRes := ⟨.bool x, [], []⟩
def r104 (g : Int → Int → Option Bool) : Dec := dV (asI .i64) fun (y0 : Int) => dV (asI .i64) fun (y1 : Int) => dEnd (ofG (g y0 y1) rx104)
theorem r104_c {g : Int → Int → Option Bool} {y0 : Int} {y1 : Int} {x : Bool} (hx : g y0 y1 = some x) : r104 g [.int .i64 y0, .int .i64 y1] [] = some (rx104 x) := (dV_eq (asI_c _)).trans ((dV_eq (asI_c _)).trans (ofG_eq hx))
def s104 (g : Int → Int → Option Bool) : Summ := ⟨[.v, .v], r104 g⟩
theorem r104_eq {g : Int → Int → Option Bool} {y0 : Int} {y1 : Int} {x : Bool} (hx : g y0 y1 = some x) : (s104 g).run [.int .i64 y0, .int .i64 y1] [] = some (rx104 x) := r104_c hx
abbrev sums104 : List (Nat × Summ) := []
theorem leads104 (hS : SumsOK Try.prog (aget (sums104))) (n : Int) (most : Int) (res : Bool) (h : R13_inF n most = some res) :
    Leads Try.prog 104 0 ⟨⟨104, 12, [(0, .int .i64 n), (1, .int .i64 most)], [.code k104_3], [], false, none⟩, [], [], 0⟩ (fun v H _ => Res 0 (rx104 res) v H) := by
  unfold R13_inF at h
  refine ev_ok tab_ok hS true 3000 ?_
  conv => whnf
  refine br.h h ?_ ?_ ?_
  · rfl
  · clear h; intro hb h; conv => whnf
    all_goals (cases h; exact Res.z rfl rfl rfl)
  clear h; intro hb h; conv => whnf
  all_goals (cases h; exact Res.z rfl rfl rfl)
theorem ok104 (hS : SumsOK Try.prog (aget (sums104))) : SumOK Try.prog 104 (s104 (R13_inF)) := by
  refine SumOK.of_leads tab_ok (fun ar os r ha hr => ?_) ⟨Try.f104, rfl, by decide, rfl⟩
  replace hr : r104 (R13_inF) ar (conts os) = some r := hr
  unfold r104 at hr
  generalize hc : conts os = C at hr
  replace hr := dV.elim hr; obtain ⟨v0, l1, y0, rfl, e0, hr⟩ := hr; obtain rfl := asI_eq _ _ _ e0
  replace hr := dV.elim hr; obtain ⟨v1, l2, y1, rfl, e1, hr⟩ := hr; obtain rfl := asI_eq _ _ _ e1
  replace hr := dFin hr; obtain ⟨rfl, rfl, x, h, rfl⟩ := hr
  obtain rfl := kinds_nil hc
  exact ⟨_, rfl, leads104 hS _ _ x h⟩
def R13_in : Int → Int → Option Bool := R13_inF
theorem lift104 : SumOK Try.prog 104 (s104 R13_in) := ok104 (SumsOK.of_tab trivial)
def R13_RightF (R04_Right : api_Addr → Option Bool) (R13_in : Int → Int → Option Bool) (t : api_Tuple) : Option Bool :=
  (R13_in t.Proto 255).bind fun i =>
  cond (i)
    (
    (R04_Right t.Src).bind fun xr =>
    cond (xr)
      (
      (R04_Right t.Dst).bind fun xr1 =>
      cond (xr1)
        (
        cond (t.Src.V6 == t.Dst.V6)
          (
          (R13_in t.SPort 65535).bind fun i1 =>
          cond (i1)
            (
            (R13_in t.DPort 65535).bind fun i2 =>
            some (i2))
            (
            some (false)))
          (
          some (false)))
        (
        some (false)))
      (
      some (false)))
    (
    some (false))
def rx43 (x : Bool) : SRes := ⟨.bool x, [], []⟩
def r43 (g : api_Tuple → Option Bool) : Dec := dV uvapi_Tuple fun (y0 : api_Tuple) => dEnd (ofG (g y0) rx43)
theorem r43_c {g : api_Tuple → Option Bool} {y0 : api_Tuple} {x : Bool} (hx : g y0 = some x) : r43 g [.agg ⟨[.int .i64 y0.Proto, .bool y0.Src.V6, .int .u64 y0.Src.Hi, .int .u64 y0.Src.Lo, .bool y0.Dst.V6, .int .u64 y0.Dst.Hi, .int .u64 y0.Dst.Lo, .int .i64 y0.SPort, .int .i64 y0.DPort]⟩] [] = some (rx43 x) := (dV_eq (uvapi_Tuple_c _)).trans (ofG_eq hx)
def s43 (g : api_Tuple → Option Bool) : Summ := ⟨[.v], r43 g⟩
theorem r43_eq {g : api_Tuple → Option Bool} {y0 : api_Tuple} {x : Bool} (hx : g y0 = some x) : (s43 g).run [.agg ⟨[.int .i64 y0.Proto, .bool y0.Src.V6, .int .u64 y0.Src.Hi, .int .u64 y0.Src.Lo, .bool y0.Dst.V6, .int .u64 y0.Dst.Hi, .int .u64 y0.Dst.Lo, .int .i64 y0.SPort, .int .i64 y0.DPort]⟩] [] = some (rx43 x) := r43_c hx
abbrev sums43 (R04_Right : api_Addr → Option Bool) (R13_in : Int → Int → Option Bool) : List (Nat × Summ) := [(86, s86 R04_Right), (104, s104 R13_in)]
theorem leads43 (R04_Right : api_Addr → Option Bool) (R13_in : Int → Int → Option Bool) (hS : SumsOK Try.prog (aget (sums43 R04_Right R13_in))) (t : api_Tuple) (res : Bool) (h : R13_RightF R04_Right R13_in t = some res) :
    Leads Try.prog 43 0 ⟨⟨43, 35, [(0, .agg ⟨[.int .i64 t.Proto, .bool t.Src.V6, .int .u64 t.Src.Hi, .int .u64 t.Src.Lo, .bool t.Dst.V6, .int .u64 t.Dst.Hi, .int .u64 t.Dst.Lo, .int .i64 t.SPort, .int .i64 t.DPort]⟩)], [.code k43_3], [], false, none⟩, [], [], 0⟩ (fun v H _ => Res 0 (rx43 res) v H) := by
  unfold R13_RightF at h
  refine ev_ok tab_ok hS true 3000 ?_
  conv => whnf
  replace h := obind.elim h; obtain ⟨i, hy, h⟩ := h
  refine sumK.q rfl rfl (r104_eq hy) rfl rfl rfl ?_
  conv => whnf
  refine br.h2 h ?_ ?_ ?_
  · rfl
  · clear h; intro hb h; conv => whnf
    all_goals (cases h; exact Res.z rfl rfl rfl)
  clear h; intro hb h; conv => whnf
  replace h := obind.elim h; obtain ⟨xr, hy, h⟩ := h
  refine sumK.q rfl rfl (r86_eq hy) rfl rfl rfl ?_
  conv => whnf
  refine br.h2 h ?_ ?_ ?_
  · rfl
  · clear h; intro hb h; conv => whnf
    all_goals (cases h; exact Res.z rfl rfl rfl)
  clear h; intro hb h; conv => whnf
  replace h := obind.elim h; obtain ⟨xr1, hy, h⟩ := h
  refine sumK.q rfl rfl (r86_eq hy) rfl rfl rfl ?_
  conv => whnf
  refine br.h2 h ?_ ?_ ?_
  · rfl
  · clear h; intro hb h; conv => whnf
    all_goals (cases h; exact Res.z rfl rfl rfl)
  clear h; intro hb h; conv => whnf
  refine br.h2 h ?_ ?_ ?_
  · rfl
  · clear h; intro hb h; conv => whnf
    all_goals (cases h; exact Res.z rfl rfl rfl)
  clear h; intro hb h; conv => whnf
  replace h := obind.elim h; obtain ⟨i1, hy, h⟩ := h
  refine sumK.q rfl rfl (r104_eq hy) rfl rfl rfl ?_
  conv => whnf
  refine br.h2 h ?_ ?_ ?_
  · rfl
  · clear h; intro hb h; conv => whnf
    all_goals (cases h; exact Res.z rfl rfl rfl)
  clear h; intro hb h; conv => whnf
  replace h := obind.elim h; obtain ⟨i2, hy, h⟩ := h
  refine sumK.q rfl rfl (r104_eq hy) rfl rfl rfl ?_
  conv => whnf
  all_goals (cases h; exact Res.z rfl rfl rfl)
theorem ok43 (R04_Right : api_Addr → Option Bool) (R13_in : Int → Int → Option Bool) (hS : SumsOK Try.prog (aget (sums43 R04_Right R13_in))) : SumOK Try.prog 43 (s43 (R13_RightF R04_Right R13_in)) := by
  refine SumOK.of_leads tab_ok (fun ar os r ha hr => ?_) ⟨Try.f43, rfl, by decide, rfl⟩
  replace hr : r43 (R13_RightF R04_Right R13_in) ar (conts os) = some r := hr
  unfold r43 at hr
  generalize hc : conts os = C at hr
  replace hr := dV.elim hr; obtain ⟨v0, l1, y0, rfl, e0, hr⟩ := hr; obtain rfl := uvapi_Tuple_eq _ _ e0
  replace hr := dFin hr; obtain ⟨rfl, rfl, x, h, rfl⟩ := hr
  obtain rfl := kinds_nil hc
  exact ⟨_, rfl, leads43 R04_Right R13_in hS _ x h⟩
def R13_Right : api_Tuple → Option Bool := R13_RightF R04_Right R13_in
theorem lift43 : SumOK Try.prog 43 (s43 R13_Right) := ok43 R04_Right R13_in (SumsOK.of_tab ⟨lift86, lift104, trivial⟩)
def law53_IcmpAboutF (R11_Datagram : api_Tuple → (List UInt8) → Option ((List UInt8) × Int)) (R11_Segment : api_Tuple → Int → (List UInt8) → (List UInt8) → Option ((List UInt8) × Int)) (R13_Back : api_Tuple → Option api_Tuple) (R13_Right : api_Tuple → Option Bool) (icmp_About : icmp_Message → Option (api_Tuple × Bool)) (law53_awake : Option Bool) (t : api_Tuple) (payload : List UInt8) (kind : Int) (cut : Int) : Option Bool :=
  cond (decide ((payload.length : Int) > 50))
    (
    (law53_awake).bind fun a =>
    some (a))
    (
    cond (t.Proto != 6)
      (
      cond (t.Proto != 17)
        (
        (law53_awake).bind fun a1 =>
        some (a1))
        (
        (R13_Right t).bind fun xr =>
        cond (!xr)
          (
          (law53_awake).bind fun a2 =>
          some (a2))
          (
          (R11_Segment t 16 [] payload).bind fun s =>
          cond (t.Proto == 17)
            (
            (R11_Datagram t payload).bind fun d =>
            cond (d.2 != 0)
              (
              (law53_awake).bind fun a3 =>
              some (a3))
              (
              cond (t.Src.V6)
                (
                oreq (!(decide (wI .i64 ((d.1.length : Int) + 1) = 0))) <|
                let t1 := (wI .i64 cut).tmod (wI .i64 ((d.1.length : Int) + 1))
                oreq (decide ((0 : Int) ≤ t1 ∧ t1 ≤ (d.1.length : Int))) <|
                (icmp_About (icmp_Message.mk (wI .i64 (1 + ((wI .i64 kind).tmod 3))) 0 0 (d.1.take t1.toNat))).bind fun a4 =>
                cond (decide (t1 < 44))
                  (
                  cond (!a4.2)
                    (
                    let t2 := (a4.1.Proto == 0) && ((a4.1.Src.V6 == false) && ((a4.1.Src.Hi == 0) && ((a4.1.Src.Lo == 0) && ((a4.1.Dst.V6 == false) && ((a4.1.Dst.Hi == 0) && ((a4.1.Dst.Lo == 0) && ((a4.1.SPort == 0) && ((a4.1.DPort == 0) && true))))))))
                    cond (t2)
                      (
                      (law53_awake).bind fun a5 =>
                      some (a5))
                      (
                      some (false)))
                    (
                    some (false)))
                  (
                  cond (a4.2)
                    (
                    (R13_Back t).bind fun b =>
                    let t3 := (a4.1.Proto == b.Proto) && ((a4.1.Src.V6 == b.Src.V6) && ((a4.1.Src.Hi == b.Src.Hi) && ((a4.1.Src.Lo == b.Src.Lo) && ((a4.1.Dst.V6 == b.Dst.V6) && ((a4.1.Dst.Hi == b.Dst.Hi) && ((a4.1.Dst.Lo == b.Dst.Lo) && ((a4.1.SPort == b.SPort) && ((a4.1.DPort == b.DPort) && true))))))))
                    cond (t3)
                      (
                      (law53_awake).bind fun a6 =>
                      some (a6))
                      (
                      some (false)))
                    (
                    some (false))))
                (
                oreq (!(decide (wI .i64 ((d.1.length : Int) + 1) = 0))) <|
                let t4 := (wI .i64 cut).tmod (wI .i64 ((d.1.length : Int) + 1))
                oreq (decide ((0 : Int) ≤ t4 ∧ t4 ≤ (d.1.length : Int))) <|
                (icmp_About (icmp_Message.mk (wI .i64 (1 + ((wI .i64 kind).tmod 3))) 0 0 (d.1.take t4.toNat))).bind fun a7 =>
                cond (decide (t4 < 24))
                  (
                  cond (!a7.2)
                    (
                    let t5 := (a7.1.Proto == 0) && ((a7.1.Src.V6 == false) && ((a7.1.Src.Hi == 0) && ((a7.1.Src.Lo == 0) && ((a7.1.Dst.V6 == false) && ((a7.1.Dst.Hi == 0) && ((a7.1.Dst.Lo == 0) && ((a7.1.SPort == 0) && ((a7.1.DPort == 0) && true))))))))
                    cond (t5)
                      (
                      (law53_awake).bind fun a8 =>
                      some (a8))
                      (
                      some (false)))
                    (
                    some (false)))
                  (
                  cond (a7.2)
                    (
                    (R13_Back t).bind fun b1 =>
                    let t6 := (a7.1.Proto == b1.Proto) && ((a7.1.Src.V6 == b1.Src.V6) && ((a7.1.Src.Hi == b1.Src.Hi) && ((a7.1.Src.Lo == b1.Src.Lo) && ((a7.1.Dst.V6 == b1.Dst.V6) && ((a7.1.Dst.Hi == b1.Dst.Hi) && ((a7.1.Dst.Lo == b1.Dst.Lo) && ((a7.1.SPort == b1.SPort) && ((a7.1.DPort == b1.DPort) && true))))))))
                    cond (t6)
                      (
                      (law53_awake).bind fun a9 =>
                      some (a9))
                      (
                      some (false)))
                    (
                    some (false))))))
            (
            cond (s.2 != 0)
              (
              (law53_awake).bind fun a10 =>
              some (a10))
              (
              cond (t.Src.V6)
                (
                oreq (!(decide (wI .i64 ((s.1.length : Int) + 1) = 0))) <|
                let t7 := (wI .i64 cut).tmod (wI .i64 ((s.1.length : Int) + 1))
                oreq (decide ((0 : Int) ≤ t7 ∧ t7 ≤ (s.1.length : Int))) <|
                (icmp_About (icmp_Message.mk (wI .i64 (1 + ((wI .i64 kind).tmod 3))) 0 0 (s.1.take t7.toNat))).bind fun a11 =>
                cond (decide (t7 < 44))
                  (
                  cond (!a11.2)
                    (
                    let t8 := (a11.1.Proto == 0) && ((a11.1.Src.V6 == false) && ((a11.1.Src.Hi == 0) && ((a11.1.Src.Lo == 0) && ((a11.1.Dst.V6 == false) && ((a11.1.Dst.Hi == 0) && ((a11.1.Dst.Lo == 0) && ((a11.1.SPort == 0) && ((a11.1.DPort == 0) && true))))))))
                    cond (t8)
                      (
                      (law53_awake).bind fun a12 =>
                      some (a12))
                      (
                      some (false)))
                    (
                    some (false)))
                  (
                  cond (a11.2)
                    (
                    (R13_Back t).bind fun b2 =>
                    let t9 := (a11.1.Proto == b2.Proto) && ((a11.1.Src.V6 == b2.Src.V6) && ((a11.1.Src.Hi == b2.Src.Hi) && ((a11.1.Src.Lo == b2.Src.Lo) && ((a11.1.Dst.V6 == b2.Dst.V6) && ((a11.1.Dst.Hi == b2.Dst.Hi) && ((a11.1.Dst.Lo == b2.Dst.Lo) && ((a11.1.SPort == b2.SPort) && ((a11.1.DPort == b2.DPort) && true))))))))
                    cond (t9)
                      (
                      (law53_awake).bind fun a13 =>
                      some (a13))
                      (
                      some (false)))
                    (
                    some (false))))
                (
                oreq (!(decide (wI .i64 ((s.1.length : Int) + 1) = 0))) <|
                let t10 := (wI .i64 cut).tmod (wI .i64 ((s.1.length : Int) + 1))
                oreq (decide ((0 : Int) ≤ t10 ∧ t10 ≤ (s.1.length : Int))) <|
                (icmp_About (icmp_Message.mk (wI .i64 (1 + ((wI .i64 kind).tmod 3))) 0 0 (s.1.take t10.toNat))).bind fun a14 =>
                cond (decide (t10 < 24))
                  (
                  cond (!a14.2)
                    (
                    let t11 := (a14.1.Proto == 0) && ((a14.1.Src.V6 == false) && ((a14.1.Src.Hi == 0) && ((a14.1.Src.Lo == 0) && ((a14.1.Dst.V6 == false) && ((a14.1.Dst.Hi == 0) && ((a14.1.Dst.Lo == 0) && ((a14.1.SPort == 0) && ((a14.1.DPort == 0) && true))))))))
                    cond (t11)
                      (
                      (law53_awake).bind fun a15 =>
                      some (a15))
                      (
                      some (false)))
                    (
                    some (false)))
                  (
                  cond (a14.2)
                    (
                    (R13_Back t).bind fun b3 =>
                    let t12 := (a14.1.Proto == b3.Proto) && ((a14.1.Src.V6 == b3.Src.V6) && ((a14.1.Src.Hi == b3.Src.Hi) && ((a14.1.Src.Lo == b3.Src.Lo) && ((a14.1.Dst.V6 == b3.Dst.V6) && ((a14.1.Dst.Hi == b3.Dst.Hi) && ((a14.1.Dst.Lo == b3.Dst.Lo) && ((a14.1.SPort == b3.SPort) && ((a14.1.DPort == b3.DPort) && true))))))))
                    cond (t12)
                      (
                      (law53_awake).bind fun a16 =>
                      some (a16))
                      (
                      some (false)))
                    (
                    some (false)))))))))
      (
      (R13_Right t).bind fun xr1 =>
      cond (!xr1)
        (
        (law53_awake).bind fun a17 =>
        some (a17))
        (
        (R11_Segment t 16 [] payload).bind fun s1 =>
        cond (t.Proto == 17)
          (
          (R11_Datagram t payload).bind fun d1 =>
          cond (d1.2 != 0)
            (
            (law53_awake).bind fun a18 =>
            some (a18))
            (
            cond (t.Src.V6)
              (
              oreq (!(decide (wI .i64 ((d1.1.length : Int) + 1) = 0))) <|
              let t13 := (wI .i64 cut).tmod (wI .i64 ((d1.1.length : Int) + 1))
              oreq (decide ((0 : Int) ≤ t13 ∧ t13 ≤ (d1.1.length : Int))) <|
              (icmp_About (icmp_Message.mk (wI .i64 (1 + ((wI .i64 kind).tmod 3))) 0 0 (d1.1.take t13.toNat))).bind fun a19 =>
              cond (decide (t13 < 44))
                (
                cond (!a19.2)
                  (
                  let t14 := (a19.1.Proto == 0) && ((a19.1.Src.V6 == false) && ((a19.1.Src.Hi == 0) && ((a19.1.Src.Lo == 0) && ((a19.1.Dst.V6 == false) && ((a19.1.Dst.Hi == 0) && ((a19.1.Dst.Lo == 0) && ((a19.1.SPort == 0) && ((a19.1.DPort == 0) && true))))))))
                  cond (t14)
                    (
                    (law53_awake).bind fun a20 =>
                    some (a20))
                    (
                    some (false)))
                  (
                  some (false)))
                (
                cond (a19.2)
                  (
                  (R13_Back t).bind fun b4 =>
                  let t15 := (a19.1.Proto == b4.Proto) && ((a19.1.Src.V6 == b4.Src.V6) && ((a19.1.Src.Hi == b4.Src.Hi) && ((a19.1.Src.Lo == b4.Src.Lo) && ((a19.1.Dst.V6 == b4.Dst.V6) && ((a19.1.Dst.Hi == b4.Dst.Hi) && ((a19.1.Dst.Lo == b4.Dst.Lo) && ((a19.1.SPort == b4.SPort) && ((a19.1.DPort == b4.DPort) && true))))))))
                  cond (t15)
                    (
                    (law53_awake).bind fun a21 =>
                    some (a21))
                    (
                    some (false)))
                  (
                  some (false))))
              (
              oreq (!(decide (wI .i64 ((d1.1.length : Int) + 1) = 0))) <|
              let t16 := (wI .i64 cut).tmod (wI .i64 ((d1.1.length : Int) + 1))
              oreq (decide ((0 : Int) ≤ t16 ∧ t16 ≤ (d1.1.length : Int))) <|
              (icmp_About (icmp_Message.mk (wI .i64 (1 + ((wI .i64 kind).tmod 3))) 0 0 (d1.1.take t16.toNat))).bind fun a22 =>
              cond (decide (t16 < 24))
                (
                cond (!a22.2)
                  (
                  let t17 := (a22.1.Proto == 0) && ((a22.1.Src.V6 == false) && ((a22.1.Src.Hi == 0) && ((a22.1.Src.Lo == 0) && ((a22.1.Dst.V6 == false) && ((a22.1.Dst.Hi == 0) && ((a22.1.Dst.Lo == 0) && ((a22.1.SPort == 0) && ((a22.1.DPort == 0) && true))))))))
                  cond (t17)
                    (
                    (law53_awake).bind fun a23 =>
                    some (a23))
                    (
                    some (false)))
                  (
                  some (false)))
                (
                cond (a22.2)
                  (
                  (R13_Back t).bind fun b5 =>
                  let t18 := (a22.1.Proto == b5.Proto) && ((a22.1.Src.V6 == b5.Src.V6) && ((a22.1.Src.Hi == b5.Src.Hi) && ((a22.1.Src.Lo == b5.Src.Lo) && ((a22.1.Dst.V6 == b5.Dst.V6) && ((a22.1.Dst.Hi == b5.Dst.Hi) && ((a22.1.Dst.Lo == b5.Dst.Lo) && ((a22.1.SPort == b5.SPort) && ((a22.1.DPort == b5.DPort) && true))))))))
                  cond (t18)
                    (
                    (law53_awake).bind fun a24 =>
                    some (a24))
                    (
                    some (false)))
                  (
                  some (false))))))
          (
          cond (s1.2 != 0)
            (
            (law53_awake).bind fun a25 =>
            some (a25))
            (
            cond (t.Src.V6)
              (
              oreq (!(decide (wI .i64 ((s1.1.length : Int) + 1) = 0))) <|
              let t19 := (wI .i64 cut).tmod (wI .i64 ((s1.1.length : Int) + 1))
              oreq (decide ((0 : Int) ≤ t19 ∧ t19 ≤ (s1.1.length : Int))) <|
              (icmp_About (icmp_Message.mk (wI .i64 (1 + ((wI .i64 kind).tmod 3))) 0 0 (s1.1.take t19.toNat))).bind fun a26 =>
              cond (decide (t19 < 44))
                (
                cond (!a26.2)
                  (
                  let t20 := (a26.1.Proto == 0) && ((a26.1.Src.V6 == false) && ((a26.1.Src.Hi == 0) && ((a26.1.Src.Lo == 0) && ((a26.1.Dst.V6 == false) && ((a26.1.Dst.Hi == 0) && ((a26.1.Dst.Lo == 0) && ((a26.1.SPort == 0) && ((a26.1.DPort == 0) && true))))))))
                  cond (t20)
                    (
                    (law53_awake).bind fun a27 =>
                    some (a27))
                    (
                    some (false)))
                  (
                  some (false)))
                (
                cond (a26.2)
                  (
                  (R13_Back t).bind fun b6 =>
                  let t21 := (a26.1.Proto == b6.Proto) && ((a26.1.Src.V6 == b6.Src.V6) && ((a26.1.Src.Hi == b6.Src.Hi) && ((a26.1.Src.Lo == b6.Src.Lo) && ((a26.1.Dst.V6 == b6.Dst.V6) && ((a26.1.Dst.Hi == b6.Dst.Hi) && ((a26.1.Dst.Lo == b6.Dst.Lo) && ((a26.1.SPort == b6.SPort) && ((a26.1.DPort == b6.DPort) && true))))))))
                  cond (t21)
                    (
                    (law53_awake).bind fun a28 =>
                    some (a28))
                    (
                    some (false)))
                  (
                  some (false))))
              (
              oreq (!(decide (wI .i64 ((s1.1.length : Int) + 1) = 0))) <|
              let t22 := (wI .i64 cut).tmod (wI .i64 ((s1.1.length : Int) + 1))
              oreq (decide ((0 : Int) ≤ t22 ∧ t22 ≤ (s1.1.length : Int))) <|
              (icmp_About (icmp_Message.mk (wI .i64 (1 + ((wI .i64 kind).tmod 3))) 0 0 (s1.1.take t22.toNat))).bind fun a29 =>
              cond (decide (t22 < 24))
                (
                cond (!a29.2)
                  (
                  let t23 := (a29.1.Proto == 0) && ((a29.1.Src.V6 == false) && ((a29.1.Src.Hi == 0) && ((a29.1.Src.Lo == 0) && ((a29.1.Dst.V6 == false) && ((a29.1.Dst.Hi == 0) && ((a29.1.Dst.Lo == 0) && ((a29.1.SPort == 0) && ((a29.1.DPort == 0) && true))))))))
                  cond (t23)
                    (
                    (law53_awake).bind fun a30 =>
                    some (a30))
                    (
                    some (false)))
                  (
                  some (false)))
                (
                cond (a29.2)
                  (
                  (R13_Back t).bind fun b7 =>
                  let t24 := (a29.1.Proto == b7.Proto) && ((a29.1.Src.V6 == b7.Src.V6) && ((a29.1.Src.Hi == b7.Src.Hi) && ((a29.1.Src.Lo == b7.Src.Lo) && ((a29.1.Dst.V6 == b7.Dst.V6) && ((a29.1.Dst.Hi == b7.Dst.Hi) && ((a29.1.Dst.Lo == b7.Dst.Lo) && ((a29.1.SPort == b7.SPort) && ((a29.1.DPort == b7.DPort) && true))))))))
                  cond (t24)
                    (
                    (law53_awake).bind fun a31 =>
                    some (a31))
                    (
                    some (false)))
                  (
                  some (false)))))))))
def rx10 (x : Bool) : SRes := ⟨.bool x, [], []⟩
abbrev sums10 (R11_Datagram : api_Tuple → (List UInt8) → Option ((List UInt8) × Int)) (R11_Segment : api_Tuple → Int → (List UInt8) → (List UInt8) → Option ((List UInt8) × Int)) (R13_Back : api_Tuple → Option api_Tuple) (R13_Right : api_Tuple → Option Bool) (icmp_About : icmp_Message → Option (api_Tuple × Bool)) (law53_awake : Option Bool) : List (Nat × Summ) := [(45, s45 R11_Datagram), (44, s44 R11_Segment), (46, s46 R13_Back), (43, s43 R13_Right), (41, s41 icmp_About), (30, s30 law53_awake)]
theorem leads10 (R11_Datagram : api_Tuple → (List UInt8) → Option ((List UInt8) × Int)) (R11_Segment : api_Tuple → Int → (List UInt8) → (List UInt8) → Option ((List UInt8) × Int)) (R13_Back : api_Tuple → Option api_Tuple) (R13_Right : api_Tuple → Option Bool) (icmp_About : icmp_Message → Option (api_Tuple × Bool)) (law53_awake : Option Bool) (hS : SumsOK Try.prog (aget (sums10 R11_Datagram R11_Segment R13_Back R13_Right icmp_About law53_awake))) (t : api_Tuple) (payload : List UInt8) (kind : Int) (cut : Int) (res : Bool) (h : law53_IcmpAboutF R11_Datagram R11_Segment R13_Back R13_Right icmp_About law53_awake t payload kind cut = some res) :
    Leads Try.prog 10 0 ⟨⟨10, 97, [(0, .agg ⟨[.int .i64 t.Proto, .bool t.Src.V6, .int .u64 t.Src.Hi, .int .u64 t.Src.Lo, .bool t.Dst.V6, .int .u64 t.Dst.Hi, .int .u64 t.Dst.Lo, .int .i64 t.SPort, .int .i64 t.DPort]⟩), (1, .string ⟨⟨payload⟩⟩), (2, .int .u8 kind), (3, .int .u16 cut)], [.code k10_39], [], false, none⟩, [], [], 0⟩ (fun v H _ => Res 0 (rx10 res) v H) := by
  unfold law53_IcmpAboutF at h
  refine ev_ok tab_ok hS true 3000 ?_
  conv => whnf
  refine br.h h ?_ ?_ ?_
  · rfl
  · clear h; intro hb h; conv => whnf
    replace h := obind.elim h; obtain ⟨a, hy, h⟩ := h
    refine sumK.q rfl rfl (r30_eq hy) rfl rfl rfl ?_
    conv => whnf
    all_goals (cases h; exact Res.z rfl rfl rfl)
  clear h; intro hb h; conv => whnf
  refine br.h2 h ?_ ?_ ?_
  · rfl
  · clear h; intro hb h; conv => whnf
    replace h := obind.elim h; obtain ⟨xr1, hy, h⟩ := h
    refine sumK.q rfl rfl (r43_eq hy) rfl rfl rfl ?_
    conv => whnf
    refine br.h h ?_ ?_ ?_
    · rfl
    · clear h; intro hb h; conv => whnf
      replace h := obind.elim h; obtain ⟨a17, hy, h⟩ := h
      refine sumK.q rfl rfl (r30_eq hy) rfl rfl rfl ?_
      conv => whnf
      all_goals (cases h; exact Res.z rfl rfl rfl)
    clear h; intro hb h; conv => whnf
    replace h := obind.elim h; obtain ⟨s1, hy, h⟩ := h
    refine sumK.q rfl rfl (r44_eq hy) rfl rfl rfl ?_
    conv => whnf
    refine br.h2 h ?_ ?_ ?_
    · rfl
    · clear h; intro hb h; conv => whnf
      refine br.h h ?_ ?_ ?_
      · rfl
      · clear h; intro hb h; conv => whnf
        replace h := obind.elim h; obtain ⟨a25, hy, h⟩ := h
        refine sumK.q rfl rfl (r30_eq hy) rfl rfl rfl ?_
        conv => whnf
        all_goals (cases h; exact Res.z rfl rfl rfl)
      clear h; intro hb h; conv => whnf
      refine br.h h ?_ ?_ ?_
      · rfl
      · clear h; intro hb h; conv => whnf
        replace h := oreq.elim h; obtain ⟨hb, h⟩ := h
        first | (refine req.intro hb ?_; conv => whnf) | skip
        let t19 : Int := (wI .i64 cut).tmod (wI .i64 ((s1.1.length : Int) + 1))
        replace h := oreq.elim h; obtain ⟨hb, h⟩ := h
        first | (refine req.intro hb ?_; conv => whnf) | skip
        replace h := obind.elim h; obtain ⟨a26, hy, h⟩ := h
        refine sumK.q rfl rfl (r41_eq hy) rfl rfl rfl ?_
        conv => whnf
        refine br.h h ?_ ?_ ?_
        · rfl
        · clear h; intro hb h; conv => whnf
          refine br.h2 h ?_ ?_ ?_
          · rfl
          · clear h; intro hb h; conv => whnf
            all_goals (cases h; exact Res.z rfl rfl rfl)
          clear h; intro hb h; conv => whnf
          let t20 : Bool := (a26.1.Proto == 0) && ((a26.1.Src.V6 == false) && ((a26.1.Src.Hi == 0) && ((a26.1.Src.Lo == 0) && ((a26.1.Dst.V6 == false) && ((a26.1.Dst.Hi == 0) && ((a26.1.Dst.Lo == 0) && ((a26.1.SPort == 0) && ((a26.1.DPort == 0) && true))))))))
          refine br.h2 h ?_ ?_ ?_
          · rfl
          · clear h; intro hb h; conv => whnf
            all_goals (cases h; exact Res.z rfl rfl rfl)
          clear h; intro hb h; conv => whnf
          replace h := obind.elim h; obtain ⟨a27, hy, h⟩ := h
          refine sumK.q rfl rfl (r30_eq hy) rfl rfl rfl ?_
          conv => whnf
          all_goals (cases h; exact Res.z rfl rfl rfl)
        clear h; intro hb h; conv => whnf
        refine br.h2 h ?_ ?_ ?_
        · rfl
        · clear h; intro hb h; conv => whnf
          all_goals (cases h; exact Res.z rfl rfl rfl)
        clear h; intro hb h; conv => whnf
        replace h := obind.elim h; obtain ⟨b6, hy, h⟩ := h
        refine sumK.q rfl rfl (r46_eq hy) rfl rfl rfl ?_
        conv => whnf
        let t21 : Bool := (a26.1.Proto == b6.Proto) && ((a26.1.Src.V6 == b6.Src.V6) && ((a26.1.Src.Hi == b6.Src.Hi) && ((a26.1.Src.Lo == b6.Src.Lo) && ((a26.1.Dst.V6 == b6.Dst.V6) && ((a26.1.Dst.Hi == b6.Dst.Hi) && ((a26.1.Dst.Lo == b6.Dst.Lo) && ((a26.1.SPort == b6.SPort) && ((a26.1.DPort == b6.DPort) && true))))))))
        refine br.h2 h ?_ ?_ ?_
        · rfl
        · clear h; intro hb h; conv => whnf
          all_goals (cases h; exact Res.z rfl rfl rfl)
        clear h; intro hb h; conv => whnf
        replace h := obind.elim h; obtain ⟨a28, hy, h⟩ := h
        refine sumK.q rfl rfl (r30_eq hy) rfl rfl rfl ?_
        conv => whnf
        all_goals (cases h; exact Res.z rfl rfl rfl)
      clear h; intro hb h; conv => whnf
      replace h := oreq.elim h; obtain ⟨hb, h⟩ := h
      first | (refine req.intro hb ?_; conv => whnf) | skip
      let t22 : Int := (wI .i64 cut).tmod (wI .i64 ((s1.1.length : Int) + 1))
      replace h := oreq.elim h; obtain ⟨hb, h⟩ := h
      first | (refine req.intro hb ?_; conv => whnf) | skip
      replace h := obind.elim h; obtain ⟨a29, hy, h⟩ := h
      refine sumK.q rfl rfl (r41_eq hy) rfl rfl rfl ?_
      conv => whnf
      refine br.h h ?_ ?_ ?_
      · rfl
      · clear h; intro hb h; conv => whnf
        refine br.h2 h ?_ ?_ ?_
        · rfl
        · clear h; intro hb h; conv => whnf
          all_goals (cases h; exact Res.z rfl rfl rfl)
        clear h; intro hb h; conv => whnf
        let t23 : Bool := (a29.1.Proto == 0) && ((a29.1.Src.V6 == false) && ((a29.1.Src.Hi == 0) && ((a29.1.Src.Lo == 0) && ((a29.1.Dst.V6 == false) && ((a29.1.Dst.Hi == 0) && ((a29.1.Dst.Lo == 0) && ((a29.1.SPort == 0) && ((a29.1.DPort == 0) && true))))))))
        refine br.h2 h ?_ ?_ ?_
        · rfl
        · clear h; intro hb h; conv => whnf
          all_goals (cases h; exact Res.z rfl rfl rfl)
        clear h; intro hb h; conv => whnf
        replace h := obind.elim h; obtain ⟨a30, hy, h⟩ := h
        refine sumK.q rfl rfl (r30_eq hy) rfl rfl rfl ?_
        conv => whnf
        all_goals (cases h; exact Res.z rfl rfl rfl)
      clear h; intro hb h; conv => whnf
      refine br.h2 h ?_ ?_ ?_
      · rfl
      · clear h; intro hb h; conv => whnf
        all_goals (cases h; exact Res.z rfl rfl rfl)
      clear h; intro hb h; conv => whnf
      replace h := obind.elim h; obtain ⟨b7, hy, h⟩ := h
      refine sumK.q rfl rfl (r46_eq hy) rfl rfl rfl ?_
      conv => whnf
      let t24 : Bool := (a29.1.Proto == b7.Proto) && ((a29.1.Src.V6 == b7.Src.V6) && ((a29.1.Src.Hi == b7.Src.Hi) && ((a29.1.Src.Lo == b7.Src.Lo) && ((a29.1.Dst.V6 == b7.Dst.V6) && ((a29.1.Dst.Hi == b7.Dst.Hi) && ((a29.1.Dst.Lo == b7.Dst.Lo) && ((a29.1.SPort == b7.SPort) && ((a29.1.DPort == b7.DPort) && true))))))))
      refine br.h2 h ?_ ?_ ?_
      · rfl
      · clear h; intro hb h; conv => whnf
        all_goals (cases h; exact Res.z rfl rfl rfl)
      clear h; intro hb h; conv => whnf
      replace h := obind.elim h; obtain ⟨a31, hy, h⟩ := h
      refine sumK.q rfl rfl (r30_eq hy) rfl rfl rfl ?_
      conv => whnf
      all_goals (cases h; exact Res.z rfl rfl rfl)
    clear h; intro hb h; conv => whnf
    replace h := obind.elim h; obtain ⟨d1, hy, h⟩ := h
    refine sumK.q rfl rfl (r45_eq hy) rfl rfl rfl ?_
    conv => whnf
    refine br.h h ?_ ?_ ?_
    · rfl
    · clear h; intro hb h; conv => whnf
      replace h := obind.elim h; obtain ⟨a18, hy, h⟩ := h
      refine sumK.q rfl rfl (r30_eq hy) rfl rfl rfl ?_
      conv => whnf
      all_goals (cases h; exact Res.z rfl rfl rfl)
    clear h; intro hb h; conv => whnf
    refine br.h h ?_ ?_ ?_
    · rfl
    · clear h; intro hb h; conv => whnf
      replace h := oreq.elim h; obtain ⟨hb, h⟩ := h
      first | (refine req.intro hb ?_; conv => whnf) | skip
      let t13 : Int := (wI .i64 cut).tmod (wI .i64 ((d1.1.length : Int) + 1))
      replace h := oreq.elim h; obtain ⟨hb, h⟩ := h
      first | (refine req.intro hb ?_; conv => whnf) | skip
      replace h := obind.elim h; obtain ⟨a19, hy, h⟩ := h
      refine sumK.q rfl rfl (r41_eq hy) rfl rfl rfl ?_
      conv => whnf
      refine br.h h ?_ ?_ ?_
      · rfl
      · clear h; intro hb h; conv => whnf
        refine br.h2 h ?_ ?_ ?_
        · rfl
        · clear h; intro hb h; conv => whnf
          all_goals (cases h; exact Res.z rfl rfl rfl)
        clear h; intro hb h; conv => whnf
        let t14 : Bool := (a19.1.Proto == 0) && ((a19.1.Src.V6 == false) && ((a19.1.Src.Hi == 0) && ((a19.1.Src.Lo == 0) && ((a19.1.Dst.V6 == false) && ((a19.1.Dst.Hi == 0) && ((a19.1.Dst.Lo == 0) && ((a19.1.SPort == 0) && ((a19.1.DPort == 0) && true))))))))
        refine br.h2 h ?_ ?_ ?_
        · rfl
        · clear h; intro hb h; conv => whnf
          all_goals (cases h; exact Res.z rfl rfl rfl)
        clear h; intro hb h; conv => whnf
        replace h := obind.elim h; obtain ⟨a20, hy, h⟩ := h
        refine sumK.q rfl rfl (r30_eq hy) rfl rfl rfl ?_
        conv => whnf
        all_goals (cases h; exact Res.z rfl rfl rfl)
      clear h; intro hb h; conv => whnf
      refine br.h2 h ?_ ?_ ?_
      · rfl
      · clear h; intro hb h; conv => whnf
        all_goals (cases h; exact Res.z rfl rfl rfl)
      clear h; intro hb h; conv => whnf
      replace h := obind.elim h; obtain ⟨b4, hy, h⟩ := h
      refine sumK.q rfl rfl (r46_eq hy) rfl rfl rfl ?_
      conv => whnf
      let t15 : Bool := (a19.1.Proto == b4.Proto) && ((a19.1.Src.V6 == b4.Src.V6) && ((a19.1.Src.Hi == b4.Src.Hi) && ((a19.1.Src.Lo == b4.Src.Lo) && ((a19.1.Dst.V6 == b4.Dst.V6) && ((a19.1.Dst.Hi == b4.Dst.Hi) && ((a19.1.Dst.Lo == b4.Dst.Lo) && ((a19.1.SPort == b4.SPort) && ((a19.1.DPort == b4.DPort) && true))))))))
      refine br.h2 h ?_ ?_ ?_
      · rfl
      · clear h; intro hb h; conv => whnf
        all_goals (cases h; exact Res.z rfl rfl rfl)
      clear h; intro hb h; conv => whnf
      replace h := obind.elim h; obtain ⟨a21, hy, h⟩ := h
      refine sumK.q rfl rfl (r30_eq hy) rfl rfl rfl ?_
      conv => whnf
      all_goals (cases h; exact Res.z rfl rfl rfl)
    clear h; intro hb h; conv => whnf
    replace h := oreq.elim h; obtain ⟨hb, h⟩ := h
    first | (refine req.intro hb ?_; conv => whnf) | skip
    let t16 : Int := (wI .i64 cut).tmod (wI .i64 ((d1.1.length : Int) + 1))
    replace h := oreq.elim h; obtain ⟨hb, h⟩ := h
    first | (refine req.intro hb ?_; conv => whnf) | skip
    replace h := obind.elim h; obtain ⟨a22, hy, h⟩ := h
    refine sumK.q rfl rfl (r41_eq hy) rfl rfl rfl ?_
    conv => whnf
    refine br.h h ?_ ?_ ?_
    · rfl
    · clear h; intro hb h; conv => whnf
      refine br.h2 h ?_ ?_ ?_
      · rfl
      · clear h; intro hb h; conv => whnf
        all_goals (cases h; exact Res.z rfl rfl rfl)
      clear h; intro hb h; conv => whnf
      let t17 : Bool := (a22.1.Proto == 0) && ((a22.1.Src.V6 == false) && ((a22.1.Src.Hi == 0) && ((a22.1.Src.Lo == 0) && ((a22.1.Dst.V6 == false) && ((a22.1.Dst.Hi == 0) && ((a22.1.Dst.Lo == 0) && ((a22.1.SPort == 0) && ((a22.1.DPort == 0) && true))))))))
      refine br.h2 h ?_ ?_ ?_
      · rfl
      · clear h; intro hb h; conv => whnf
        all_goals (cases h; exact Res.z rfl rfl rfl)
      clear h; intro hb h; conv => whnf
      replace h := obind.elim h; obtain ⟨a23, hy, h⟩ := h
      refine sumK.q rfl rfl (r30_eq hy) rfl rfl rfl ?_
      conv => whnf
      all_goals (cases h; exact Res.z rfl rfl rfl)
    clear h; intro hb h; conv => whnf
    refine br.h2 h ?_ ?_ ?_
    · rfl
    · clear h; intro hb h; conv => whnf
      all_goals (cases h; exact Res.z rfl rfl rfl)
    clear h; intro hb h; conv => whnf
    replace h := obind.elim h; obtain ⟨b5, hy, h⟩ := h
    refine sumK.q rfl rfl (r46_eq hy) rfl rfl rfl ?_
    conv => whnf
    let t18 : Bool := (a22.1.Proto == b5.Proto) && ((a22.1.Src.V6 == b5.Src.V6) && ((a22.1.Src.Hi == b5.Src.Hi) && ((a22.1.Src.Lo == b5.Src.Lo) && ((a22.1.Dst.V6 == b5.Dst.V6) && ((a22.1.Dst.Hi == b5.Dst.Hi) && ((a22.1.Dst.Lo == b5.Dst.Lo) && ((a22.1.SPort == b5.SPort) && ((a22.1.DPort == b5.DPort) && true))))))))
    refine br.h2 h ?_ ?_ ?_
    · rfl
    · clear h; intro hb h; conv => whnf
      all_goals (cases h; exact Res.z rfl rfl rfl)
    clear h; intro hb h; conv => whnf
    replace h := obind.elim h; obtain ⟨a24, hy, h⟩ := h
    refine sumK.q rfl rfl (r30_eq hy) rfl rfl rfl ?_
    conv => whnf
    all_goals (cases h; exact Res.z rfl rfl rfl)
  clear h; intro hb h; conv => whnf
  refine br.h h ?_ ?_ ?_
  · rfl
  · clear h; intro hb h; conv => whnf
    replace h := obind.elim h; obtain ⟨a1, hy, h⟩ := h
    refine sumK.q rfl rfl (r30_eq hy) rfl rfl rfl ?_
    conv => whnf
    all_goals (cases h; exact Res.z rfl rfl rfl)
  clear h; intro hb h; conv => whnf
  replace h := obind.elim h; obtain ⟨xr, hy, h⟩ := h
  refine sumK.q rfl rfl (r43_eq hy) rfl rfl rfl ?_
  conv => whnf
  refine br.h h ?_ ?_ ?_
  · rfl
  · clear h; intro hb h; conv => whnf
    replace h := obind.elim h; obtain ⟨a2, hy, h⟩ := h
    refine sumK.q rfl rfl (r30_eq hy) rfl rfl rfl ?_
    conv => whnf
    all_goals (cases h; exact Res.z rfl rfl rfl)
  clear h; intro hb h; conv => whnf
  replace h := obind.elim h; obtain ⟨s, hy, h⟩ := h
  refine sumK.q rfl rfl (r44_eq hy) rfl rfl rfl ?_
  conv => whnf
  refine br.h2 h ?_ ?_ ?_
  · rfl
  · clear h; intro hb h; conv => whnf
    refine br.h h ?_ ?_ ?_
    · rfl
    · clear h; intro hb h; conv => whnf
      replace h := obind.elim h; obtain ⟨a10, hy, h⟩ := h
      refine sumK.q rfl rfl (r30_eq hy) rfl rfl rfl ?_
      conv => whnf
      all_goals (cases h; exact Res.z rfl rfl rfl)
    clear h; intro hb h; conv => whnf
    refine br.h h ?_ ?_ ?_
    · rfl
    · clear h; intro hb h; conv => whnf
      replace h := oreq.elim h; obtain ⟨hb, h⟩ := h
      first | (refine req.intro hb ?_; conv => whnf) | skip
      let t7 : Int := (wI .i64 cut).tmod (wI .i64 ((s.1.length : Int) + 1))
      replace h := oreq.elim h; obtain ⟨hb, h⟩ := h
      first | (refine req.intro hb ?_; conv => whnf) | skip
      replace h := obind.elim h; obtain ⟨a11, hy, h⟩ := h
      refine sumK.q rfl rfl (r41_eq hy) rfl rfl rfl ?_
      conv => whnf
      refine br.h h ?_ ?_ ?_
      · rfl
      · clear h; intro hb h; conv => whnf
        refine br.h2 h ?_ ?_ ?_
        · rfl
        · clear h; intro hb h; conv => whnf
          all_goals (cases h; exact Res.z rfl rfl rfl)
        clear h; intro hb h; conv => whnf
        let t8 : Bool := (a11.1.Proto == 0) && ((a11.1.Src.V6 == false) && ((a11.1.Src.Hi == 0) && ((a11.1.Src.Lo == 0) && ((a11.1.Dst.V6 == false) && ((a11.1.Dst.Hi == 0) && ((a11.1.Dst.Lo == 0) && ((a11.1.SPort == 0) && ((a11.1.DPort == 0) && true))))))))
        refine br.h2 h ?_ ?_ ?_
        · rfl
        · clear h; intro hb h; conv => whnf
          all_goals (cases h; exact Res.z rfl rfl rfl)
        clear h; intro hb h; conv => whnf
        replace h := obind.elim h; obtain ⟨a12, hy, h⟩ := h
        refine sumK.q rfl rfl (r30_eq hy) rfl rfl rfl ?_
        conv => whnf
        all_goals (cases h; exact Res.z rfl rfl rfl)
      clear h; intro hb h; conv => whnf
      refine br.h2 h ?_ ?_ ?_
      · rfl
      · clear h; intro hb h; conv => whnf
        all_goals (cases h; exact Res.z rfl rfl rfl)
      clear h; intro hb h; conv => whnf
      replace h := obind.elim h; obtain ⟨b2, hy, h⟩ := h
      refine sumK.q rfl rfl (r46_eq hy) rfl rfl rfl ?_
      conv => whnf
      let t9 : Bool := (a11.1.Proto == b2.Proto) && ((a11.1.Src.V6 == b2.Src.V6) && ((a11.1.Src.Hi == b2.Src.Hi) && ((a11.1.Src.Lo == b2.Src.Lo) && ((a11.1.Dst.V6 == b2.Dst.V6) && ((a11.1.Dst.Hi == b2.Dst.Hi) && ((a11.1.Dst.Lo == b2.Dst.Lo) && ((a11.1.SPort == b2.SPort) && ((a11.1.DPort == b2.DPort) && true))))))))
      refine br.h2 h ?_ ?_ ?_
      · rfl
      · clear h; intro hb h; conv => whnf
        all_goals (cases h; exact Res.z rfl rfl rfl)
      clear h; intro hb h; conv => whnf
      replace h := obind.elim h; obtain ⟨a13, hy, h⟩ := h
      refine sumK.q rfl rfl (r30_eq hy) rfl rfl rfl ?_
      conv => whnf
      all_goals (cases h; exact Res.z rfl rfl rfl)
    clear h; intro hb h; conv => whnf
    replace h := oreq.elim h; obtain ⟨hb, h⟩ := h
    first | (refine req.intro hb ?_; conv => whnf) | skip
    let t10 : Int := (wI .i64 cut).tmod (wI .i64 ((s.1.length : Int) + 1))
    replace h := oreq.elim h; obtain ⟨hb, h⟩ := h
    first | (refine req.intro hb ?_; conv => whnf) | skip
    replace h := obind.elim h; obtain ⟨a14, hy, h⟩ := h
    refine sumK.q rfl rfl (r41_eq hy) rfl rfl rfl ?_
    conv => whnf
    refine br.h h ?_ ?_ ?_
    · rfl
    · clear h; intro hb h; conv => whnf
      refine br.h2 h ?_ ?_ ?_
      · rfl
      · clear h; intro hb h; conv => whnf
        all_goals (cases h; exact Res.z rfl rfl rfl)
      clear h; intro hb h; conv => whnf
      let t11 : Bool := (a14.1.Proto == 0) && ((a14.1.Src.V6 == false) && ((a14.1.Src.Hi == 0) && ((a14.1.Src.Lo == 0) && ((a14.1.Dst.V6 == false) && ((a14.1.Dst.Hi == 0) && ((a14.1.Dst.Lo == 0) && ((a14.1.SPort == 0) && ((a14.1.DPort == 0) && true))))))))
      refine br.h2 h ?_ ?_ ?_
      · rfl
      · clear h; intro hb h; conv => whnf
        all_goals (cases h; exact Res.z rfl rfl rfl)
      clear h; intro hb h; conv => whnf
      replace h := obind.elim h; obtain ⟨a15, hy, h⟩ := h
      refine sumK.q rfl rfl (r30_eq hy) rfl rfl rfl ?_
      conv => whnf
      all_goals (cases h; exact Res.z rfl rfl rfl)
    clear h; intro hb h; conv => whnf
    refine br.h2 h ?_ ?_ ?_
    · rfl
    · clear h; intro hb h; conv => whnf
      all_goals (cases h; exact Res.z rfl rfl rfl)
    clear h; intro hb h; conv => whnf
    replace h := obind.elim h; obtain ⟨b3, hy, h⟩ := h
    refine sumK.q rfl rfl (r46_eq hy) rfl rfl rfl ?_
    conv => whnf
    let t12 : Bool := (a14.1.Proto == b3.Proto) && ((a14.1.Src.V6 == b3.Src.V6) && ((a14.1.Src.Hi == b3.Src.Hi) && ((a14.1.Src.Lo == b3.Src.Lo) && ((a14.1.Dst.V6 == b3.Dst.V6) && ((a14.1.Dst.Hi == b3.Dst.Hi) && ((a14.1.Dst.Lo == b3.Dst.Lo) && ((a14.1.SPort == b3.SPort) && ((a14.1.DPort == b3.DPort) && true))))))))
    refine br.h2 h ?_ ?_ ?_
    · rfl
    · clear h; intro hb h; conv => whnf
      all_goals (cases h; exact Res.z rfl rfl rfl)
    clear h; intro hb h; conv => whnf
    replace h := obind.elim h; obtain ⟨a16, hy, h⟩ := h
    refine sumK.q rfl rfl (r30_eq hy) rfl rfl rfl ?_
    conv => whnf
    all_goals (cases h; exact Res.z rfl rfl rfl)
  clear h; intro hb h; conv => whnf
  replace h := obind.elim h; obtain ⟨d, hy, h⟩ := h
  refine sumK.q rfl rfl (r45_eq hy) rfl rfl rfl ?_
  conv => whnf
  refine br.h h ?_ ?_ ?_
  · rfl
  · clear h; intro hb h; conv => whnf
    replace h := obind.elim h; obtain ⟨a3, hy, h⟩ := h
    refine sumK.q rfl rfl (r30_eq hy) rfl rfl rfl ?_
    conv => whnf
    all_goals (cases h; exact Res.z rfl rfl rfl)
  clear h; intro hb h; conv => whnf
  refine br.h h ?_ ?_ ?_
  · rfl
  · clear h; intro hb h; conv => whnf
    replace h := oreq.elim h; obtain ⟨hb, h⟩ := h
    first | (refine req.intro hb ?_; conv => whnf) | skip
    let t1 : Int := (wI .i64 cut).tmod (wI .i64 ((d.1.length : Int) + 1))
    replace h := oreq.elim h; obtain ⟨hb, h⟩ := h
    first | (refine req.intro hb ?_; conv => whnf) | skip
    replace h := obind.elim h; obtain ⟨a4, hy, h⟩ := h
    refine sumK.q rfl rfl (r41_eq hy) rfl rfl rfl ?_
    conv => whnf
    refine br.h h ?_ ?_ ?_
    · rfl
    · clear h; intro hb h; conv => whnf
      refine br.h2 h ?_ ?_ ?_
      · rfl
      · clear h; intro hb h; conv => whnf
        all_goals (cases h; exact Res.z rfl rfl rfl)
      clear h; intro hb h; conv => whnf
      let t2 : Bool := (a4.1.Proto == 0) && ((a4.1.Src.V6 == false) && ((a4.1.Src.Hi == 0) && ((a4.1.Src.Lo == 0) && ((a4.1.Dst.V6 == false) && ((a4.1.Dst.Hi == 0) && ((a4.1.Dst.Lo == 0) && ((a4.1.SPort == 0) && ((a4.1.DPort == 0) && true))))))))
      refine br.h2 h ?_ ?_ ?_
      · rfl
      · clear h; intro hb h; conv => whnf
        all_goals (cases h; exact Res.z rfl rfl rfl)
      clear h; intro hb h; conv => whnf
      replace h := obind.elim h; obtain ⟨a5, hy, h⟩ := h
      refine sumK.q rfl rfl (r30_eq hy) rfl rfl rfl ?_
      conv => whnf
      all_goals (cases h; exact Res.z rfl rfl rfl)
    clear h; intro hb h; conv => whnf
    refine br.h2 h ?_ ?_ ?_
    · rfl
    · clear h; intro hb h; conv => whnf
      all_goals (cases h; exact Res.z rfl rfl rfl)
    clear h; intro hb h; conv => whnf
    replace h := obind.elim h; obtain ⟨b, hy, h⟩ := h
    refine sumK.q rfl rfl (r46_eq hy) rfl rfl rfl ?_
    conv => whnf
    let t3 : Bool := (a4.1.Proto == b.Proto) && ((a4.1.Src.V6 == b.Src.V6) && ((a4.1.Src.Hi == b.Src.Hi) && ((a4.1.Src.Lo == b.Src.Lo) && ((a4.1.Dst.V6 == b.Dst.V6) && ((a4.1.Dst.Hi == b.Dst.Hi) && ((a4.1.Dst.Lo == b.Dst.Lo) && ((a4.1.SPort == b.SPort) && ((a4.1.DPort == b.DPort) && true))))))))
    refine br.h2 h ?_ ?_ ?_
    · rfl
    · clear h; intro hb h; conv => whnf
      all_goals (cases h; exact Res.z rfl rfl rfl)
    clear h; intro hb h; conv => whnf
    replace h := obind.elim h; obtain ⟨a6, hy, h⟩ := h
    refine sumK.q rfl rfl (r30_eq hy) rfl rfl rfl ?_
    conv => whnf
    all_goals (cases h; exact Res.z rfl rfl rfl)
  clear h; intro hb h; conv => whnf
  replace h := oreq.elim h; obtain ⟨hb, h⟩ := h
  first | (refine req.intro hb ?_; conv => whnf) | skip
  let t4 : Int := (wI .i64 cut).tmod (wI .i64 ((d.1.length : Int) + 1))
  replace h := oreq.elim h; obtain ⟨hb, h⟩ := h
  first | (refine req.intro hb ?_; conv => whnf) | skip
  replace h := obind.elim h; obtain ⟨a7, hy, h⟩ := h
  refine sumK.q rfl rfl (r41_eq hy) rfl rfl rfl ?_
  conv => whnf
  refine br.h h ?_ ?_ ?_
  · rfl
  · clear h; intro hb h; conv => whnf
    refine br.h2 h ?_ ?_ ?_
    · rfl
    · clear h; intro hb h; conv => whnf
      all_goals (cases h; exact Res.z rfl rfl rfl)
    clear h; intro hb h; conv => whnf
    let t5 : Bool := (a7.1.Proto == 0) && ((a7.1.Src.V6 == false) && ((a7.1.Src.Hi == 0) && ((a7.1.Src.Lo == 0) && ((a7.1.Dst.V6 == false) && ((a7.1.Dst.Hi == 0) && ((a7.1.Dst.Lo == 0) && ((a7.1.SPort == 0) && ((a7.1.DPort == 0) && true))))))))
    refine br.h2 h ?_ ?_ ?_
    · rfl
    · clear h; intro hb h; conv => whnf
      all_goals (cases h; exact Res.z rfl rfl rfl)
    clear h; intro hb h; conv => whnf
    replace h := obind.elim h; obtain ⟨a8, hy, h⟩ := h
    refine sumK.q rfl rfl (r30_eq hy) rfl rfl rfl ?_
    conv => whnf
    all_goals (cases h; exact Res.z rfl rfl rfl)
  clear h; intro hb h; conv => whnf
  refine br.h2 h ?_ ?_ ?_
  · rfl
  · clear h; intro hb h; conv => whnf
    all_goals (cases h; exact Res.z rfl rfl rfl)
  clear h; intro hb h; conv => whnf
  replace h := obind.elim h; obtain ⟨b1, hy, h⟩ := h
  refine sumK.q rfl rfl (r46_eq hy) rfl rfl rfl ?_
  conv => whnf
  let t6 : Bool := (a7.1.Proto == b1.Proto) && ((a7.1.Src.V6 == b1.Src.V6) && ((a7.1.Src.Hi == b1.Src.Hi) && ((a7.1.Src.Lo == b1.Src.Lo) && ((a7.1.Dst.V6 == b1.Dst.V6) && ((a7.1.Dst.Hi == b1.Dst.Hi) && ((a7.1.Dst.Lo == b1.Dst.Lo) && ((a7.1.SPort == b1.SPort) && ((a7.1.DPort == b1.DPort) && true))))))))
  refine br.h2 h ?_ ?_ ?_
  · rfl
  · clear h; intro hb h; conv => whnf
    all_goals (cases h; exact Res.z rfl rfl rfl)
  clear h; intro hb h; conv => whnf
  replace h := obind.elim h; obtain ⟨a9, hy, h⟩ := h
  refine sumK.q rfl rfl (r30_eq hy) rfl rfl rfl ?_
  conv => whnf
  all_goals (cases h; exact Res.z rfl rfl rfl)
def law53_IcmpAbout : api_Tuple → (List UInt8) → Int → Int → Option Bool := law53_IcmpAboutF R11_Datagram R11_Segment R13_Back R13_Right icmp_About law53_awake
end Go.Vm.Code
namespace Go.Vm.Code
open Go Go.Vm
theorem awake53a : law53_awake = some true := by decide +kernel
theorem vK_take {s : List UInt8} {n p k : Nat} (h : p + k ≤ n) : vK (s.take n) p k = vK s p k := by
  unfold vK
  rw [List.drop_take, List.take_take, Nat.min_eq_left (by omega)]
theorem vK_nil (p k : Nat) : vK [] p k = 0 := by unfold vK; simp
theorem vK_drop {s b : List UInt8} {z p k : Nat} (h : s.drop z = b) : vK s (z + p) k = vK b p k := by
  unfold vK; rw [← h, List.drop_drop]
theorem aok4 {a : api_Addr} (h : A4 a) (hk : aok a = true) (hv : a.V6 = false) : a.Hi = 0 ∧ 0 ≤ a.Lo ∧ a.Lo < 4294967296 := by
  unfold aok at hk
  rw [hv] at hk
  simp only [Bool.false_or, Bool.and_eq_true, beq_iff_eq, decide_eq_true_eq] at hk
  exact ⟨hk.1, h.2.2.1, hk.2⟩
theorem quoted_v4 {t : api_Tuple} {b : List UInt8} {n : Nat} (h1 : A4 t.Src) (h2 : A4 t.Dst) (k1 : aok t.Src = true) (k2 : aok t.Dst = true) (v1 : t.Src.V6 = false) (v2 : t.Dst.V6 = false) (hp : t.Proto = 6 ∨ t.Proto = 17) (hn : n ≤ 20 + b.length) (hb : 20 + b.length ≤ 65535) :
    quoted53 ((hc5 (h5of t) (20 + b.length) (ck5 (h5of t) (20 + b.length)) ++ b).take n) = if n < 24 then none53 else (⟨t.Proto, t.Src, t.Dst, vK b 0 2, vK b 2 2⟩, true) := by
  obtain ⟨a1, a2, a3⟩ := aok4 h1 k1 v1
  obtain ⟨b1, b2, b3⟩ := aok4 h2 k2 v2
  obtain ⟨c1, c2, c3⟩ := ck5_ok (h5of t) (20 + b.length)
  have hlen := hc5_len (h5of t) (20 + b.length) (ck5 (h5of t) (20 + b.length))
  rw [show (h5of t).Options = [] from rfl, List.length_nil] at hlen
  obtain ⟨p0, p1, p2, p4, p6, p8, p9, p12, p16, p20, _, _⟩ := hc5_parts (h5of t) (20 + b.length) (ck5 (h5of t) (20 + b.length)) b
  generalize ck5 (h5of t) (20 + b.length) = c at *
  have w0 := vK_of p0 rfl (by rw [show (h5of t).Options = [] from rfl]; decide)
  rw [show (h5of t).Proto = t.Proto from rfl] at p9
  rw [show (h5of t).Src = t.Src from rfl] at p12
  rw [show (h5of t).Dst = t.Dst from rfl] at p16
  rw [show (h5of t).Options = [] from rfl, List.nil_append] at p20
  have w9 := vK_of p9 rfl (by omega)
  have w12 := vK_of p12 rfl (by omega)
  have w16 := vK_of p16 rfl (by omega)
  rw [show (h5of t).Options.length = 0 from rfl] at w0
  rw [show ((64 + (20 + 0) / 4 : Nat) : Int) = 69 from rfl] at w0
  rw [Int.toNat_of_nonneg (by omega)] at w9
  rw [Int.toNat_of_nonneg a2] at w12
  rw [Int.toNat_of_nonneg b2] at w16
  generalize hS : hc5 (h5of t) (20 + b.length) c ++ b = S at *
  have hSl : S.length = 20 + b.length := by rw [← hS, List.length_append, hlen]
  unfold quoted53
  by_cases hz : n = 0
  · subst hz
    rw [List.take_zero, vK_nil, if_neg (by decide), if_neg (by decide), if_pos (by omega)]
  rw [vK_take (n := n) (p := 0) (k := 1) (by omega), w0, if_pos (by decide), show ((69 : Int) % 16 * 4).toNat = 20 from rfl]
  by_cases h24 : n < 24
  · rw [if_pos (.inr (.inl (by simp; omega))), if_pos h24]
  rw [if_neg h24, vK_take (by omega), w9]
  have e20 : (S.take n).take 20 = hc5 (h5of t) (20 + b.length) c := by
    rw [List.take_take, Nat.min_eq_left (by omega), ← hS]
    exact List.take_left' hlen
  rw [e20, norm_zero_mod c2 c3, if_neg (fun h => h.elim (fun x => by omega) fun h => h.elim (fun x => by simp at x; omega) fun h => h.elim (fun x => x rfl) fun x => by omega)]
  unfold tup53 adr4
  rw [vK_take (by omega), vK_take (by omega), vK_take (by omega), vK_take (by omega), w12, w16, vK_drop (z := 20) (p := 0) p20, vK_drop (z := 20) (p := 2) p20]
  have e1 : (⟨false, 0, t.Src.Lo⟩ : api_Addr) = t.Src := by rw [← v1, ← a1]
  have e2 : (⟨false, 0, t.Dst.Lo⟩ : api_Addr) = t.Dst := by rw [← v2, ← b1]
  rw [e1, e2]
theorem quoted_v6 {t : api_Tuple} {b : List UInt8} {n : Nat} (h1 : A4 t.Src) (h2 : A4 t.Dst) (v1 : t.Src.V6 = true) (v2 : t.Dst.V6 = true) (hp : t.Proto = 6 ∨ t.Proto = 17) (hn : n ≤ 40 + b.length) :
    quoted53 ((headB (h6of t) b.length ++ b).take n) = if n < 44 then none53 else (⟨t.Proto, t.Src, t.Dst, vK b 0 2, vK b 2 2⟩, true) := by
  have hlen := headB_len (h6of t) b.length
  obtain ⟨p1, p2, p3, p4, p5, p6, p7⟩ := parts6 (a := be (6 * 2 ^ 28 + (h6of t).Class.toNat * 2 ^ 20 + (h6of t).Label.toNat) 4) (b := be b.length 2) (c := be (h6of t).Next.toNat 1) (d := be (h6of t).Hop.toNat 1) (e := addrB (h6of t).Src) (f := addrB (h6of t).Dst) (r := b) (by simp) (by simp) (by simp) (by simp) (by simp [addrB]) (by simp [addrB])
  have e : be (6 * 2 ^ 28 + (h6of t).Class.toNat * 2 ^ 20 + (h6of t).Label.toNat) 4 ++ be b.length 2 ++ be (h6of t).Next.toNat 1 ++ be (h6of t).Hop.toNat 1 ++ addrB (h6of t).Src ++ addrB (h6of t).Dst ++ b = headB (h6of t) b.length ++ b := rfl
  rw [e] at p1 p2 p3 p4 p5 p6 p7
  generalize hS : headB (h6of t) b.length ++ b = S at *
  have hSl : S.length = 40 + b.length := by rw [← hS, List.length_append, hlen]
  have w0 : vK S 0 1 = 96 := by
    unfold vK
    have : (S.drop 0).take 1 = (S.take 4).take 1 := by rw [List.drop_zero, List.take_take]; rfl
    rw [this, p1, show (h6of t).Class.toNat = 0 from rfl, show (h6of t).Label.toNat = 0 from rfl]; rfl
  have w6 := vK_of p3 rfl (by show t.Proto.toNat < _; omega)
  rw [show ((h6of t).Next.toNat : Int) = t.Proto from Int.toNat_of_nonneg (by show 0 ≤ t.Proto; omega)] at w6
  unfold quoted53
  by_cases hz : n = 0
  · subst hz
    rw [List.take_zero, vK_nil, if_neg (by decide), if_neg (by decide), if_pos (by omega)]
  rw [vK_take (n := n) (p := 0) (k := 1) (by omega), w0, if_neg (by decide), if_pos (by decide)]
  by_cases h44 : n < 44
  · rw [if_pos (.inl (by simp; omega)), if_pos h44]
  rw [if_neg h44, vK_take (by omega), w6, if_neg (fun h => h.elim (fun x => by simp at x; omega) fun x => by omega)]
  unfold tup53 adr6
  have adr : ∀ (a : api_Addr) (p : Nat), A4 a → a.V6 = true → (S.drop p).take 16 = addrB a → (⟨true, vK S p 8, vK S (p + 8) 8⟩ : api_Addr) = a := by
    intro a p ha hv he
    have := addrG_addrB ha.addrOK hv
    have e1 := vK_sub2 S p 16 0 8 (by omega)
    have e2 := vK_sub2 S p 16 8 8 (by omega)
    rw [he] at e1 e2
    rw [← this, ← e2, show vK S p 8 = vK S (p + 0) 8 from rfl, ← e1]
    unfold addrG vK
    rw [List.drop_zero, List.take_of_length_le (l := (addrB a).drop 8) (by simp [addrB])]
  rw [vK_take (by omega), vK_take (by omega), vK_take (by omega), vK_take (by omega), vK_take (by omega), vK_take (by omega), adr t.Src 8 h1 v1 p5, adr t.Dst 24 h2 v2 p6, show vK S 40 2 = vK b 0 2 from vK_drop (z := 40) (p := 0) p7, show vK S (40 + 2) 2 = vK b 2 2 from vK_drop (z := 40) (p := 2) p7]
theorem ports7 {h : tcp_Head} {src dst : api_Addr} {l : List UInt8} (h0 : (put7 h src dst l).2 = 0) : (0 ≤ h.SPort ∧ h.SPort ≤ 65535) ∧ (0 ≤ h.DPort ∧ h.DPort ≤ 65535) ∧ vK (put7 h src dst l).1 0 2 = h.SPort ∧ vK (put7 h src dst l).1 2 2 = h.DPort ∧ 4 ≤ (put7 h src dst l).1.length := by
  unfold put7 at h0 ⊢
  cases hh : H7 h
  · rw [if_pos hh] at h0; exact absurd h0 (by decide)
  rw [if_neg (by rw [hh]; decide)] at h0
  rw [if_neg (by decide)]
  by_cases hp : pseu src dst 6 (20 + h.Options.length + l.length) = []
  · rw [if_pos hp] at h0; exact absurd h0 (by decide)
  rw [if_neg hp] at h0 ⊢
  by_cases hl : 65535 - (20 + (h.Options.length : Int)) < l.length
  · rw [if_pos hl] at h0; exact absurd h0 (by decide)
  rw [if_neg hl]
  obtain ⟨q1, q2, _⟩ := H7_inv hh
  generalize ck7 _ h l = c
  have e : hc7 h c ++ l = be h.SPort.toNat 2 ++ (be h.DPort.toNat 2 ++ (be h.Seq.toNat 4 ++ be h.Ack.toNat 4 ++ be (4 * (20 + h.Options.length)) 1 ++ be h.Flags.toNat 1 ++ be h.Window.toNat 2 ++ (be c 2 ++ (be h.Urgent.toNat 2 ++ (h.Options ++ l))))) := by
    simp only [hc7, ha7, List.append_assoc]
  simp only [e]
  refine ⟨q1, q2, ?_, ?_, ?_⟩
  · rw [vK_of (w := be h.SPort.toNat 2) (by rw [List.drop_zero]; exact List.take_left' (by simp)) rfl (by omega), Int.toNat_of_nonneg q1.1]
  · rw [vK_of (w := be h.DPort.toNat 2) (by rw [List.drop_left' (by simp)]; exact List.take_left' (by simp)) rfl (by omega), Int.toNat_of_nonneg q2.1]
  · simp only [List.length_append, be_len]; omega
theorem ports8 {h : udp_Head} {src dst : api_Addr} {l : List UInt8} (h0 : (put8 h src dst l).2 = 0) : (0 ≤ h.SPort ∧ h.SPort ≤ 65535) ∧ (0 ≤ h.DPort ∧ h.DPort ≤ 65535) ∧ vK (put8 h src dst l).1 0 2 = h.SPort ∧ vK (put8 h src dst l).1 2 2 = h.DPort ∧ 4 ≤ (put8 h src dst l).1.length := by
  unfold put8 at h0 ⊢
  by_cases hh : (port h.SPort && port h.DPort) = false
  · rw [if_pos hh] at h0; exact absurd h0 (by decide)
  rw [if_neg hh] at h0 ⊢
  by_cases hp : pseu src dst 17 (8 + l.length) = []
  · rw [if_pos hp] at h0; exact absurd h0 (by decide)
  rw [if_neg hp] at h0 ⊢
  by_cases hl : 65535 < 8 + l.length
  · rw [if_pos hl] at h0; exact absurd h0 (by decide)
  rw [if_neg hl]
  have hport : port h.SPort = true ∧ port h.DPort = true := by simpa using hh
  have q1 := port_iff.1 hport.1
  have q2 := port_iff.1 hport.2
  generalize ck8 _ _ = c
  have hu : u8 h l = be h.SPort.toNat 2 ++ (be h.DPort.toNat 2 ++ (be (8 + (l.length : Int)).toNat 2 ++ (be 0 2 ++ l))) := by
    unfold u8
    rw [putS_two, putS_two, putS_two]
    simp only [List.append_assoc]; rfl
  have e : setS (u8 h l) 6 2 c = be h.SPort.toNat 2 ++ (be h.DPort.toNat 2 ++ (be (8 + (l.length : Int)).toNat 2 ++ (be c.toNat 2 ++ l))) := by
    have := setS_mid (A := be h.SPort.toNat 2 ++ (be h.DPort.toNat 2 ++ be (8 + (l.length : Int)).toNat 2)) (B := l) (p := 6) (c := c) (by simp)
    rw [hu]
    simp only [List.append_assoc] at this ⊢
    exact this
  simp only [e]
  refine ⟨q1, q2, ?_, ?_, ?_⟩
  · rw [vK_of (w := be h.SPort.toNat 2) (by rw [List.drop_zero]; exact List.take_left' (by simp)) rfl (by omega), Int.toNat_of_nonneg q1.1]
  · rw [vK_of (w := be h.DPort.toNat 2) (by rw [List.drop_left' (by simp)]; exact List.take_left' (by simp)) rfl (by omega), Int.toNat_of_nonneg q2.1]
  · simp only [List.length_append, be_len]; omega
theorem about11 {t : api_Tuple} {b : List UInt8} (h1 : A4 t.Src) (h2 : A4 t.Dst) (h0 : (put11 t b).2 = 0) (b0 : vK b 0 2 = t.SPort) (b2 : vK b 2 2 = t.DPort) (_ : 4 ≤ b.length) (k : Int) (hk : 1 ≤ k ∧ k ≤ 3) (n : Nat) (hn : n ≤ (put11 t b).1.length) :
    about53 ⟨k, 0, 0, (put11 t b).1.take n⟩ = if n < cond t.Src.V6 44 24 then none53 else (backT t, true) := by
  obtain ⟨e1, e2, e3, e4, e5, e6⟩ := put11_ok h0
  have fin : ∀ q : api_Tuple × Bool, quoted53 ((put11 t b).1.take n) = q → about53 ⟨k, 0, 0, (put11 t b).1.take n⟩ = if q.2 = false then none53 else (backT q.1, true) := by
    intro q hq
    unfold about53
    simp only []
    rw [hq]
    by_cases hq2 : q.2 = false
    · rw [if_pos (.inl hq2), if_pos hq2]
    · rw [if_neg (fun h => h.elim hq2 fun h => by omega), if_neg hq2]
  have et : (⟨t.Proto, t.Src, t.Dst, t.SPort, t.DPort⟩ : api_Tuple) = t := rfl
  rcases e6 with ⟨v, hh, hl, e⟩ | ⟨v, hh, hl, e⟩
  · have hlen := headB_len (h6of t) b.length
    rw [e] at hn
    simp only [List.length_append, hlen] at hn
    have hq := quoted_v6 (n := n) h1 h2 v (by rw [← e1]; exact v) e4 (by omega)
    rw [b0, b2, et] at hq
    rw [fin (if n < 44 then none53 else (t, true)) (by rw [e]; exact hq), v, cond_true]
    by_cases g : n < 44
    · rw [if_pos g, if_pos g]; rfl
    · rw [if_neg g, if_neg g]; rfl
  · have hlen := hc5_len (h5of t) (20 + b.length) (ck5 (h5of t) (20 + b.length))
    rw [show (h5of t).Options = [] from rfl, List.length_nil] at hlen
    rw [e] at hn
    simp only [List.length_append, hlen] at hn
    have hq := quoted_v4 (n := n) h1 h2 e2 e3 v (by rw [← e1]; exact v) e4 (by omega) hl
    rw [b0, b2, et] at hq
    rw [fin (if n < 24 then none53 else (t, true)) (by rw [e]; exact hq), v, cond_false]
    by_cases g : n < 24
    · rw [if_pos g, if_pos g]; rfl
    · rw [if_neg g, if_neg g]; rfl
def tail53 (t : api_Tuple) (kind cut : Int) (d : List UInt8 × Int) : Option Bool :=
            cond (d.2 != 0)
              (
              (law53_awake).bind fun a3 =>
              some (a3))
              (
              cond (t.Src.V6)
                (
                oreq (!(decide (wI .i64 ((d.1.length : Int) + 1) = 0))) <|
                let t1 := (wI .i64 cut).tmod (wI .i64 ((d.1.length : Int) + 1))
                oreq (decide ((0 : Int) ≤ t1 ∧ t1 ≤ (d.1.length : Int))) <|
                (icmp_About (icmp_Message.mk (wI .i64 (1 + ((wI .i64 kind).tmod 3))) 0 0 (d.1.take t1.toNat))).bind fun a4 =>
                cond (decide (t1 < 44))
                  (
                  cond (!a4.2)
                    (
                    let t2 := (a4.1.Proto == 0) && ((a4.1.Src.V6 == false) && ((a4.1.Src.Hi == 0) && ((a4.1.Src.Lo == 0) && ((a4.1.Dst.V6 == false) && ((a4.1.Dst.Hi == 0) && ((a4.1.Dst.Lo == 0) && ((a4.1.SPort == 0) && ((a4.1.DPort == 0) && true))))))))
                    cond (t2)
                      (
                      (law53_awake).bind fun a5 =>
                      some (a5))
                      (
                      some (false)))
                    (
                    some (false)))
                  (
                  cond (a4.2)
                    (
                    (R13_Back t).bind fun b =>
                    let t3 := (a4.1.Proto == b.Proto) && ((a4.1.Src.V6 == b.Src.V6) && ((a4.1.Src.Hi == b.Src.Hi) && ((a4.1.Src.Lo == b.Src.Lo) && ((a4.1.Dst.V6 == b.Dst.V6) && ((a4.1.Dst.Hi == b.Dst.Hi) && ((a4.1.Dst.Lo == b.Dst.Lo) && ((a4.1.SPort == b.SPort) && ((a4.1.DPort == b.DPort) && true))))))))
                    cond (t3)
                      (
                      (law53_awake).bind fun a6 =>
                      some (a6))
                      (
                      some (false)))
                    (
                    some (false))))
                (
                oreq (!(decide (wI .i64 ((d.1.length : Int) + 1) = 0))) <|
                let t4 := (wI .i64 cut).tmod (wI .i64 ((d.1.length : Int) + 1))
                oreq (decide ((0 : Int) ≤ t4 ∧ t4 ≤ (d.1.length : Int))) <|
                (icmp_About (icmp_Message.mk (wI .i64 (1 + ((wI .i64 kind).tmod 3))) 0 0 (d.1.take t4.toNat))).bind fun a7 =>
                cond (decide (t4 < 24))
                  (
                  cond (!a7.2)
                    (
                    let t5 := (a7.1.Proto == 0) && ((a7.1.Src.V6 == false) && ((a7.1.Src.Hi == 0) && ((a7.1.Src.Lo == 0) && ((a7.1.Dst.V6 == false) && ((a7.1.Dst.Hi == 0) && ((a7.1.Dst.Lo == 0) && ((a7.1.SPort == 0) && ((a7.1.DPort == 0) && true))))))))
                    cond (t5)
                      (
                      (law53_awake).bind fun a8 =>
                      some (a8))
                      (
                      some (false)))
                    (
                    some (false)))
                  (
                  cond (a7.2)
                    (
                    (R13_Back t).bind fun b1 =>
                    let t6 := (a7.1.Proto == b1.Proto) && ((a7.1.Src.V6 == b1.Src.V6) && ((a7.1.Src.Hi == b1.Src.Hi) && ((a7.1.Src.Lo == b1.Src.Lo) && ((a7.1.Dst.V6 == b1.Dst.V6) && ((a7.1.Dst.Hi == b1.Dst.Hi) && ((a7.1.Dst.Lo == b1.Dst.Lo) && ((a7.1.SPort == b1.SPort) && ((a7.1.DPort == b1.DPort) && true))))))))
                    cond (t6)
                      (
                      (law53_awake).bind fun a9 =>
                      some (a9))
                      (
                      some (false)))
                    (
                    some (false)))))
theorem tail53_eq {t : api_Tuple} {p : List UInt8 × Int} {kind cut : Int} (hk : 0 ≤ kind ∧ kind < 256) (hc : 0 ≤ cut ∧ cut < 65536) (hl : p.1.length ≤ 9000)
    (H : p.2 = 0 → ∀ (k : Int) (n : Nat), 1 ≤ k ∧ k ≤ 3 → n ≤ p.1.length → about53 ⟨k, 0, 0, p.1.take n⟩ = if n < cond t.Src.V6 44 24 then none53 else (backT t, true)) : tail53 t kind cut p = some true := by
  unfold tail53
  rw [awake53a]
  by_cases g : p.2 = 0
  · rw [show (p.2 != 0) = false by simpa using g, cond_false, wI64 (n := (p.1.length : Int) + 1) (by omega) (by omega), wI64 (n := cut) (by omega) (by omega), wI64 (n := kind) (by omega) (by omega)]
    have e3 : kind.tmod 3 = kind % 3 := Int.tmod_eq_emod_of_nonneg hk.1
    rw [e3, wI64 (n := 1 + kind % 3) (by omega) (by omega), rback_eq]
    have e0 : cut.tmod ((p.1.length : Int) + 1) = ((cut.toNat % (p.1.length + 1) : Nat) : Int) := by
      rw [Int.tmod_eq_emod_of_nonneg hc.1, Int.natCast_emod, Int.toNat_of_nonneg hc.1]; rfl
    have hm := Nat.mod_lt cut.toNat (show 0 < p.1.length + 1 by omega)
    rw [e0]
    generalize cut.toNat % (p.1.length + 1) = n at *
    have hA := H g (1 + kind % 3) n (by omega) (by omega)
    have ia : icmp_About ⟨1 + kind % 3, 0, 0, p.1.take n⟩ = some (about53 ⟨1 + kind % 3, 0, 0, p.1.take n⟩) := iabout_eq (by simp; omega)
    simp only [Int.toNat_natCast]
    have ob : (!(decide ((p.1.length : Int) + 1 = 0))) = true := by rw [Bool.not_eq_true', decide_eq_false_iff_not]; omega
    cases hv : t.Src.V6
    · rw [hv, cond_false] at hA
      rw [cond_false, oreq.mk ob, oreq_p (by omega), ia, hA, Option.bind_some]
      by_cases g2 : n < 24
      · rw [cond_p (by omega), if_pos g2]; rfl
      · rw [cond_n (by omega), if_neg g2]
        simp only [cond_true, Option.bind_some, beq_self_eq_true, Bool.and_self]
    · rw [hv, cond_true] at hA
      rw [cond_true, oreq.mk ob, oreq_p (by omega), ia, hA, Option.bind_some]
      by_cases g2 : n < 44
      · rw [cond_p (by omega), if_pos g2]; rfl
      · rw [cond_n (by omega), if_neg g2]
        simp only [cond_true, Option.bind_some, beq_self_eq_true, Bool.and_self]
  · rw [show (p.2 != 0) = true by simpa using g, cond_true]; rfl
theorem in13_eq (n m : Int) : R13_in n m = some (inR n m) := by
  unfold R13_in R13_inF inR
  by_cases h : 0 ≤ n
  · rw [cond_p (by omega)]; simp [h]
  · rw [cond_n (by omega)]; simp [h]
theorem right13_eq (t : api_Tuple) : R13_Right t = some (inR t.Proto 255 && aok t.Src && aok t.Dst && (t.Src.V6 == t.Dst.V6) && inR t.SPort 65535 && inR t.DPort 65535) := by
  unfold R13_Right R13_RightF
  simp only [in13_eq, a4Right_eq, Option.bind_some]
  cases inR t.Proto 255 <;> cases aok t.Src <;> cases aok t.Dst <;> cases (t.Src.V6 == t.Dst.V6) <;> cases inR t.SPort 65535 <;> rfl
theorem icmpAbout (t : api_Tuple) (l : List UInt8) (kind cut : Int) (h1 : A4 t.Src) (h2 : A4 t.Dst) (hk : 0 ≤ kind ∧ kind < 256) (hc : 0 ≤ cut ∧ cut < 65536) : law53_IcmpAbout t l kind cut = some true := by
  unfold law53_IcmpAbout law53_IcmpAboutF
  by_cases g1 : (l.length : Int) > 50
  · rw [cond_p g1, awake53a]; rfl
  have hS : t.Proto = 6 → tail53 t kind cut (seg11 t 16 [] l) = some true := by
    intro hp
    have e0 : seg11 t 16 [] l = if (put7 ⟨t.SPort, t.DPort, 0, 0, 16, 65535, 0, []⟩ t.Src t.Dst l).2 ≠ 0 then ([], (put7 ⟨t.SPort, t.DPort, 0, 0, 16, 65535, 0, []⟩ t.Src t.Dst l).2) else put11 t (put7 ⟨t.SPort, t.DPort, 0, 0, 16, 65535, 0, []⟩ t.Src t.Dst l).1 := by
      unfold seg11; rw [if_neg (by omega)]
    by_cases g : (put7 ⟨t.SPort, t.DPort, 0, 0, 16, 65535, 0, []⟩ t.Src t.Dst l).2 = 0
    · rw [if_neg (by simpa using g)] at e0
      obtain ⟨q1, q2, q3, q4, q5⟩ := ports7 g
      rw [e0]
      by_cases g2 : (put11 t (put7 ⟨t.SPort, t.DPort, 0, 0, 16, 65535, 0, []⟩ t.Src t.Dst l).1).2 = 0
      · have := put11_ok g2
        exact tail53_eq hk hc this.2.2.2.2.1 fun h k n hk hn => about11 h1 h2 h q3 q4 q5 k hk n hn
      · unfold tail53
        rw [show ((put11 t (put7 ⟨t.SPort, t.DPort, 0, 0, 16, 65535, 0, []⟩ t.Src t.Dst l).1).2 != 0) = true by simpa using g2, cond_true, awake53a]; rfl
    · rw [if_pos g] at e0
      rw [e0]
      exact tail53_eq hk hc (Nat.zero_le _) fun h => absurd h g
  have hD : t.Proto = 17 → tail53 t kind cut (dat11 t l) = some true := by
    intro hp
    have e0 : dat11 t l = if (put8 ⟨t.SPort, t.DPort⟩ t.Src t.Dst l).2 ≠ 0 then ([], (put8 ⟨t.SPort, t.DPort⟩ t.Src t.Dst l).2) else put11 t (put8 ⟨t.SPort, t.DPort⟩ t.Src t.Dst l).1 := by
      unfold dat11; rw [if_neg (by omega)]
    by_cases g : (put8 ⟨t.SPort, t.DPort⟩ t.Src t.Dst l).2 = 0
    · rw [if_neg (by simpa using g)] at e0
      obtain ⟨q1, q2, q3, q4, q5⟩ := ports8 g
      rw [e0]
      by_cases g2 : (put11 t (put8 ⟨t.SPort, t.DPort⟩ t.Src t.Dst l).1).2 = 0
      · have := put11_ok g2
        exact tail53_eq hk hc this.2.2.2.2.1 fun h k n hk hn => about11 h1 h2 h q3 q4 q5 k hk n hn
      · unfold tail53
        rw [show ((put11 t (put8 ⟨t.SPort, t.DPort⟩ t.Src t.Dst l).1).2 != 0) = true by simpa using g2, cond_true, awake53a]; rfl
    · rw [if_pos g] at e0
      rw [e0]
      exact tail53_eq hk hc (Nat.zero_le _) fun h => absurd h g
  rw [cond_n g1, right13_eq, Option.bind_some]
  unfold tail53 at hS hD
  by_cases p6 : t.Proto = 6
  · rw [show (t.Proto != 6) = false by simpa using p6, cond_false, show (t.Proto == 17) = false by rw [p6]; rfl]
    cases hr : (inR t.Proto 255 && aok t.Src && aok t.Dst && (t.Src.V6 == t.Dst.V6) && inR t.SPort 65535 && inR t.DPort 65535)
    · rw [awake53a]; rfl
    rw [Bool.not_true, cond_false, r11seg_eq h1 h2 (by simp) (by omega), Option.bind_some, cond_false]
    exact hS p6
  · rw [show (t.Proto != 6) = true by simpa using p6, cond_true]
    by_cases p17 : t.Proto = 17
    · rw [show (t.Proto != 17) = false by simpa using p17, cond_false, show (t.Proto == 17) = true by simpa using p17]
      cases hr : (inR t.Proto 255 && aok t.Src && aok t.Dst && (t.Src.V6 == t.Dst.V6) && inR t.SPort 65535 && inR t.DPort 65535)
      · rw [awake53a]; rfl
      rw [Bool.not_true, cond_false, r11seg_eq h1 h2 (by simp) (by omega), Option.bind_some, cond_true, r11dat_eq h1 h2 (by omega), Option.bind_some]
      exact hD p17
    · rw [show (t.Proto != 17) = true by simpa using p17, cond_true, awake53a]; rfl
end Go.Vm.Code
