import Derived.Test.YtgkpojcckgbcjaaVmLift
import Derived.Test.YtgkpojcckgbcjaaCodeA
/- Plain lemmas on the lifted functions' words. -/
namespace Go.Vm
open Go

/-! numbers of the machine -/
theorem wI64 {n : Int} (h1 : -9223372036854775808 ≤ n) (h2 : n < 9223372036854775808) : wI .i64 n = n := by
  show IntKind.wrap .i64 n = n; rw [IntKind.wrap_i64]; omega
theorem wU64 {n : Int} (h1 : 0 ≤ n) (h2 : n < 18446744073709551616) : wI .u64 n = n := by
  show IntKind.wrap .u64 n = n
  simp only [IntKind.wrap, IntKind.bits, IntKind.signed]; simp; omega
theorem wU32 {n : Int} (h1 : 0 ≤ n) (h2 : n < 4294967296) : wI .u32 n = n := by
  show IntKind.wrap .u32 n = n
  simp only [IntKind.wrap, IntKind.bits, IntKind.signed]; simp; omega
theorem wU16 {n : Int} (h1 : 0 ≤ n) (h2 : n < 65536) : wI .u16 n = n := by
  show IntKind.wrap .u16 n = n
  simp only [IntKind.wrap, IntKind.bits, IntKind.signed]; simp; omega
theorem wU8 {n : Int} (h1 : 0 ≤ n) (h2 : n < 256) : wI .u8 n = n := by
  show IntKind.wrap .u8 n = n
  simp only [IntKind.wrap, IntKind.bits, IntKind.signed]; simp; omega
theorem wU64m (n : Int) : wI .u64 n = n % 18446744073709551616 := by
  show IntKind.wrap .u64 n = _
  simp only [IntKind.wrap, IntKind.bits, IntKind.signed]; simp
theorem wU32m (n : Int) : wI .u32 n = n % 4294967296 := by
  show IntKind.wrap .u32 n = _
  simp only [IntKind.wrap, IntKind.bits, IntKind.signed]; simp
theorem wU16m (n : Int) : wI .u16 n = n % 65536 := by
  show IntKind.wrap .u16 n = _
  simp only [IntKind.wrap, IntKind.bits, IntKind.signed]; simp
theorem wU8m (n : Int) : wI .u8 n = n % 256 := by
  show IntKind.wrap .u8 n = _
  simp only [IntKind.wrap, IntKind.bits, IntKind.signed]; simp

theorem bv64 {n : Nat} (h : n < 18446744073709551616) : (BitVec.ofInt 64 (n : Int)).toNat = n := by
  rw [BitVec.toNat_ofInt]; omega
theorem andI64 {a b : Nat} (ha : a < 9223372036854775808) (hb : b < 9223372036854775808) : andI .i64 (a : Int) (b : Int) = ((a &&& b : Nat) : Int) := by
  have h : a &&& b ≤ a := Nat.and_le_left
  show IntKind.wrap .i64 _ = _
  rw [show IntKind.bits .i64 = 64 from rfl, BitVec.toNat_and, bv64 (by omega), bv64 (by omega)]
  exact wI64 (by omega) (by omega)
theorem iorI64 {a b : Nat} (ha : a < 9223372036854775808) (hb : b < 9223372036854775808) : iorI .i64 (a : Int) (b : Int) = ((a ||| b : Nat) : Int) := by
  have h : a ||| b < 2 ^ 63 := Nat.or_lt_two_pow (by omega) (by omega)
  show IntKind.wrap .i64 _ = _
  rw [show IntKind.bits .i64 = 64 from rfl, BitVec.toNat_or, bv64 (by omega), bv64 (by omega)]
  exact wI64 (by omega) (by omega)
theorem andU64 {a b : Nat} (ha : a < 18446744073709551616) (hb : b < 18446744073709551616) : andI .u64 (a : Int) (b : Int) = ((a &&& b : Nat) : Int) := by
  have h : a &&& b ≤ a := Nat.and_le_left
  show IntKind.wrap .u64 _ = _
  rw [show IntKind.bits .u64 = 64 from rfl, BitVec.toNat_and, bv64 (by omega), bv64 (by omega)]
  exact wU64 (by omega) (by omega)
theorem iorU64 {a b : Nat} (ha : a < 18446744073709551616) (hb : b < 18446744073709551616) : iorI .u64 (a : Int) (b : Int) = ((a ||| b : Nat) : Int) := by
  have h : a ||| b < 2 ^ 64 := Nat.or_lt_two_pow (by omega) (by omega)
  show IntKind.wrap .u64 _ = _
  rw [show IntKind.bits .u64 = 64 from rfl, BitVec.toNat_or, bv64 (by omega), bv64 (by omega)]
  exact wU64 (by omega) (by omega)
theorem ixorU64 {a b : Nat} (ha : a < 18446744073709551616) (hb : b < 18446744073709551616) : ixorI .u64 (a : Int) (b : Int) = ((a ^^^ b : Nat) : Int) := by
  have h : a ^^^ b < 2 ^ 64 := Nat.xor_lt_two_pow (by omega) (by omega)
  show IntKind.wrap .u64 _ = _
  rw [show IntKind.bits .u64 = 64 from rfl, BitVec.toNat_xor, bv64 (by omega), bv64 (by omega)]
  exact wU64 (by omega) (by omega)
theorem and_mask (a k : Nat) : a &&& (2 ^ k - 1) = a % 2 ^ k := Nat.and_two_pow_sub_one_eq_mod a k
theorem or_low {a b k : Nat} (hb : b < 2 ^ k) : (a * 2 ^ k) ||| b = a * 2 ^ k + b := by
  rw [Nat.mul_comm]; exact (Nat.two_pow_add_eq_or_of_lt hb a).symm
/-- a number's lowest bits -/
theorem andI64_mask (k : Nat) {a m : Int} (hm : m = 2 ^ k - 1) (hk : k ≤ 62) (h0 : 0 ≤ a) (h1 : a < 9223372036854775808) : andI .i64 a m = a % 2 ^ k := by
  obtain ⟨n, rfl⟩ := Int.eq_ofNat_of_zero_le h0
  have hp : 2 ^ k ≤ 2 ^ 62 := Nat.pow_le_pow_right (by decide) hk
  have hp1 : 1 ≤ 2 ^ k := Nat.one_le_two_pow
  have : m = ((2 ^ k - 1 : Nat) : Int) := by rw [hm]; push_cast [hp1]; rfl
  rw [this, andI64 (by omega) (by omega), and_mask]; push_cast; rfl
theorem andU64_mask (k : Nat) {a m : Int} (hm : m = 2 ^ k - 1) (hk : k ≤ 64) (h0 : 0 ≤ a) (h1 : a < 18446744073709551616) : andI .u64 a m = a % 2 ^ k := by
  obtain ⟨n, rfl⟩ := Int.eq_ofNat_of_zero_le h0
  have hp : 2 ^ k ≤ 2 ^ 64 := Nat.pow_le_pow_right (by decide) hk
  have hp1 : 1 ≤ 2 ^ k := Nat.one_le_two_pow
  have : m = ((2 ^ k - 1 : Nat) : Int) := by rw [hm]; push_cast [hp1]; rfl
  rw [this, andU64 (by omega) (by omega), and_mask]; push_cast; rfl
/-- two numbers whose bits lie apart -/
theorem iorI64_low (k : Nat) {a b : Int} (h0 : 0 ≤ a) (h1 : a * 2 ^ k < 9223372036854775808) (hb0 : 0 ≤ b) (hb : b < 2 ^ k) (hb1 : b < 9223372036854775808) : iorI .i64 (a * 2 ^ k) b = a * 2 ^ k + b := by
  obtain ⟨n, rfl⟩ := Int.eq_ofNat_of_zero_le h0
  obtain ⟨m, rfl⟩ := Int.eq_ofNat_of_zero_le hb0
  have e : ((n : Int) * 2 ^ k) = ((n * 2 ^ k : Nat) : Int) := by push_cast; rfl
  rw [e] at h1 ⊢
  rw [iorI64 (by omega) (by omega), or_low (by exact_mod_cast hb)]; push_cast; rfl
theorem iorU64_low (k : Nat) {a b : Int} (h0 : 0 ≤ a) (h1 : a * 2 ^ k < 18446744073709551616) (hb0 : 0 ≤ b) (hb : b < 2 ^ k) (hb1 : b < 18446744073709551616) : iorI .u64 (a * 2 ^ k) b = a * 2 ^ k + b := by
  obtain ⟨n, rfl⟩ := Int.eq_ofNat_of_zero_le h0
  obtain ⟨m, rfl⟩ := Int.eq_ofNat_of_zero_le hb0
  have e : ((n : Int) * 2 ^ k) = ((n * 2 ^ k : Nat) : Int) := by push_cast; rfl
  rw [e] at h1 ⊢
  rw [iorU64 (by omega) (by omega), or_low (by exact_mod_cast hb)]; push_cast; rfl
theorem fdivP (a : Int) (k : Nat) : a.fdiv (2 ^ k) = a / 2 ^ k := Int.fdiv_eq_ediv_of_nonneg a (Int.le_of_lt (Int.pow_pos (by decide)))

/-! steps -/
theorem oreq_p {α : Type} {p : Prop} [Decidable p] {x : Option α} (h : p) : oreq (decide p) x = x := oreq.mk (decide_eq_true h)
theorem cond_p {α : Type} {p : Prop} [Decidable p] {x y : α} (h : p) : cond (decide p) x y = x := by rw [decide_eq_true h, cond_true]
theorem cond_n {α : Type} {p : Prop} [Decidable p] {x y : α} (h : ¬ p) : cond (decide p) x y = y := by rw [decide_eq_false h, cond_false]
theorem cond_dec {α : Type} {p : Prop} [Decidable p] {x y : α} : cond (decide p) x y = if p then x else y := by
  by_cases h : p <;> simp [h]

/-! loops -/
theorem iter_eq {σ ρ : Type} {step : σ → Option (Sum σ ρ)} (F : σ → ρ) (P : σ → Prop) (μ : σ → Nat)
    (h : ∀ s, P s → step s = some (.inr (F s)) ∨ ∃ s', step s = some (.inl s') ∧ P s' ∧ μ s' < μ s ∧ F s' = F s) : ∀ n s, P s → μ s < n → iter step n s = some (F s)
  | 0, s, hp, hn => by omega
  | n + 1, s, hp, hn => by
    rw [iter]
    rcases h s hp with e | ⟨s', e, hp', hm, hf⟩
    · rw [e]
    · rw [e]; exact hf ▸ iter_eq F P μ h n s' hp' (by omega)
theorem FUEL_eq : FUEL = 18446744073709551616 := rfl
end Go.Vm

namespace Go.Vm.Code
open Go Go.Vm Go.Proofs
set_option maxRecDepth 100000
set_option maxHeartbeats 4000000
set_option linter.unusedVariables false

@[ext] structure api_Key where
  A : Int
  B : Int
  deriving DecidableEq
@[ext] structure Arr4_Int where
  e0 : Int
  e1 : Int
  e2 : Int
  e3 : Int
  deriving DecidableEq
@[ext] structure sip_Hasher where
  made : Bool
  s : Arr4_Int
  last : Int
  count : Int
  deriving DecidableEq
@[ext] structure api_Addr where
  V6 : Bool
  Hi : Int
  Lo : Int
  deriving DecidableEq
@[ext] structure ipsix_Head where
  Class : Int
  Label : Int
  Next : Int
  Hop : Int
  Src : api_Addr
  Dst : api_Addr
  deriving DecidableEq
@[ext] structure octet_Reader where
  s : List UInt8
  made : Bool
  bad : Bool
  deriving DecidableEq
end Go.Vm.Code

namespace Go.Vm.Code
open Go Go.Vm Go.Proofs
set_option maxRecDepth 100000
set_option maxHeartbeats 4000000
set_option linter.unusedVariables false

/-! cloakroom/cloakroomref12.turn -/
def R12_turnF (n : Int) (k : Int) : Option Int :=
  oreq (decide (0 ≤ k)) <|
  oreq (decide (0 ≤ (wI .i64 (64 - k)))) <|
  let t := n.fdiv (2 ^ (min (wI .i64 (64 - k)).toNat 64))
  let t1 := iorI .u64 (wI .u64 (n * 2 ^ (min k.toNat 64))) t
  some (t1)
def post68 (x : Int) (v : Value) (H : Hp) : Prop := v = .int .u64 x
def r68 (g : Int → Int → Option Int) : List SArg → Option SRes
  | [.v (.int .u64 a0_1), .v (.int .i64 a1_1)] => match g a0_1 a1_1 with | some x => some ⟨.int .u64 x, [], []⟩ | none => none
  | _ => none
def s68 (g : Int → Int → Option Int) : Summ := ⟨[.v, .v], r68 g⟩
theorem r68_eq {g : Int → Int → Option Int} {a0_1 : Int} {a1_1 : Int} {x : Int} (hx : g a0_1 a1_1 = some x) : (s68 g).run [.v (.int .u64 a0_1), .v (.int .i64 a1_1)] = some ⟨.int .u64 x, [], []⟩ := by
  show r68 g [.v (.int .u64 a0_1), .v (.int .i64 a1_1)] = _
  simp only [r68, hx]
abbrev sums68 : List (Nat × Summ) := []
theorem leads68 (hS : SumsOK Try.prog (aget (sums68))) (n : Int) (k : Int) (res : Int) (h : R12_turnF n k = some res) :
    Leads Try.prog 68 0 ⟨⟨68, 13, [(0, .int .u64 n), (1, .int .i64 k)], [.code k68_3], [], false, none⟩, [], [], 0⟩ (fun v H _ => post68 res v H) := by
  unfold R12_turnF at h
  refine ev_ok tab_ok hS true 3000 ?_
  conv => whnf
  replace h := oreq.elim h; have hb := h.1; replace h := h.2
  first | (refine req.intro hb ?_; conv => whnf) | skip
  replace h := oreq.elim h; have hb := h.1; replace h := h.2
  first | (refine req.intro hb ?_; conv => whnf) | skip
  let t : Int := n.fdiv (2 ^ (min (wI .i64 (64 - k)).toNat 64))
  let t1 : Int := iorI .u64 (wI .u64 (n * 2 ^ (min k.toNat 64))) t
  all_goals (cases h)
  all_goals exact rfl
theorem ok68 (hS : SumsOK Try.prog (aget (sums68))) : SumOK Try.prog 68 (s68 (R12_turnF)) := by
  refine SumOK.of_leads tab_ok (fun ar r ha hr => ?_) ⟨Try.f68, rfl, by decide, rfl⟩
  simp only [s68] at ha hr
  unfold r68 at hr
  split at hr <;> try (cases hr; done)
  split at hr <;> cases hr
  rename_i x h
  refine ⟨_, rfl, (leads68 hS _ _ x h).mono fun v H t hp => ?_⟩
  cases hp
  exact Res.val rfl trivial
def R12_turn : Int → Int → Option Int := R12_turnF
theorem lift68 : SumOK Try.prog 68 (s68 R12_turn) := ok68 (SumsOK.of_tab trivial)
end Go.Vm.Code

namespace Go.Vm.Code
open Go Go.Vm Go.Proofs
set_option maxRecDepth 100000
set_option maxHeartbeats 4000000
set_option linter.unusedVariables false

/-! cloakroom/cloakroomref12.Round -/
def R12_RoundF (R12_turn : Int → Int → Option Int) (a : Int) (b : Int) (c : Int) (d : Int) : Option (Int × Int × Int × Int) :=
  (R12_turn b 13).bind fun t =>
  (R12_turn (wI .u64 (a + b)) 32).bind fun t1 =>
  (R12_turn d 16).bind fun t2 =>
  let t3 := wI .u64 (t1 + (ixorI .u64 t2 (wI .u64 (c + d))))
  (R12_turn (ixorI .u64 t2 (wI .u64 (c + d))) 21).bind fun t4 =>
  let t5 := wI .u64 ((wI .u64 (c + d)) + (ixorI .u64 t (wI .u64 (a + b))))
  (R12_turn (ixorI .u64 t (wI .u64 (a + b))) 17).bind fun t6 =>
  (R12_turn t5 32).bind fun t7 =>
  some ((t3, ixorI .u64 t6 t5, t7, ixorI .u64 t4 t3))
def post67 (x : Int × Int × Int × Int) (v : Value) (H : Hp) : Prop := v = .tuple ⟨[.int .u64 x.1, .int .u64 x.2.1, .int .u64 x.2.2.1, .int .u64 x.2.2.2]⟩
def r67 (g : Int → Int → Int → Int → Option (Int × Int × Int × Int)) : List SArg → Option SRes
  | [.v (.int .u64 a0_1), .v (.int .u64 a1_1), .v (.int .u64 a2_1), .v (.int .u64 a3_1)] => match g a0_1 a1_1 a2_1 a3_1 with | some x => some ⟨.tuple ⟨[.int .u64 x.1, .int .u64 x.2.1, .int .u64 x.2.2.1, .int .u64 x.2.2.2]⟩, [], []⟩ | none => none
  | _ => none
def s67 (g : Int → Int → Int → Int → Option (Int × Int × Int × Int)) : Summ := ⟨[.v, .v, .v, .v], r67 g⟩
theorem r67_eq {g : Int → Int → Int → Int → Option (Int × Int × Int × Int)} {a0_1 : Int} {a1_1 : Int} {a2_1 : Int} {a3_1 : Int} {x : Int × Int × Int × Int} (hx : g a0_1 a1_1 a2_1 a3_1 = some x) : (s67 g).run [.v (.int .u64 a0_1), .v (.int .u64 a1_1), .v (.int .u64 a2_1), .v (.int .u64 a3_1)] = some ⟨.tuple ⟨[.int .u64 x.1, .int .u64 x.2.1, .int .u64 x.2.2.1, .int .u64 x.2.2.2]⟩, [], []⟩ := by
  show r67 g [.v (.int .u64 a0_1), .v (.int .u64 a1_1), .v (.int .u64 a2_1), .v (.int .u64 a3_1)] = _
  simp only [r67, hx]
abbrev sums67 (R12_turn : Int → Int → Option Int) : List (Nat × Summ) := [(68, s68 R12_turn)]
theorem leads67 (R12_turn : Int → Int → Option Int) (hS : SumsOK Try.prog (aget (sums67 R12_turn))) (a : Int) (b : Int) (c : Int) (d : Int) (res : Int × Int × Int × Int) (h : R12_RoundF R12_turn a b c d = some res) :
    Leads Try.prog 67 0 ⟨⟨67, 48, [(0, .int .u64 a), (1, .int .u64 b), (2, .int .u64 c), (3, .int .u64 d)], [.code k67_23], [], false, none⟩, [], [], 0⟩ (fun v H _ => post67 res v H) := by
  unfold R12_RoundF at h
  refine ev_ok tab_ok hS true 3000 ?_
  conv => whnf
  obtain ⟨t, hy, h2⟩ := obind.elim h; clear h; have h := h2; clear h2
  refine sumK.introF [] (sumRun_of (aqs := [.v (.int .u64 b), .v (.int .i64 13)]) (ra_cons rfl (ra_cons rfl ra_nil)) (r68_eq hy) rfl rfl rfl rfl) ?_
  conv => whnf
  obtain ⟨t1, hy, h2⟩ := obind.elim h; clear h; have h := h2; clear h2
  refine sumK.introF [] (sumRun_of (aqs := [.v (.int .u64 (wI .u64 (a + b))), .v (.int .i64 32)]) (ra_cons rfl (ra_cons rfl ra_nil)) (r68_eq hy) rfl rfl rfl rfl) ?_
  conv => whnf
  obtain ⟨t2, hy, h2⟩ := obind.elim h; clear h; have h := h2; clear h2
  refine sumK.introF [] (sumRun_of (aqs := [.v (.int .u64 d), .v (.int .i64 16)]) (ra_cons rfl (ra_cons rfl ra_nil)) (r68_eq hy) rfl rfl rfl rfl) ?_
  conv => whnf
  let t3 : Int := wI .u64 (t1 + (ixorI .u64 t2 (wI .u64 (c + d))))
  obtain ⟨t4, hy, h2⟩ := obind.elim h; clear h; have h := h2; clear h2
  refine sumK.introF [] (sumRun_of (aqs := [.v (.int .u64 (ixorI .u64 t2 (wI .u64 (c + d)))), .v (.int .i64 21)]) (ra_cons rfl (ra_cons rfl ra_nil)) (r68_eq hy) rfl rfl rfl rfl) ?_
  conv => whnf
  let t5 : Int := wI .u64 ((wI .u64 (c + d)) + (ixorI .u64 t (wI .u64 (a + b))))
  obtain ⟨t6, hy, h2⟩ := obind.elim h; clear h; have h := h2; clear h2
  refine sumK.introF [] (sumRun_of (aqs := [.v (.int .u64 (ixorI .u64 t (wI .u64 (a + b)))), .v (.int .i64 17)]) (ra_cons rfl (ra_cons rfl ra_nil)) (r68_eq hy) rfl rfl rfl rfl) ?_
  conv => whnf
  obtain ⟨t7, hy, h2⟩ := obind.elim h; clear h; have h := h2; clear h2
  refine sumK.introF [] (sumRun_of (aqs := [.v (.int .u64 t5), .v (.int .i64 32)]) (ra_cons rfl (ra_cons rfl ra_nil)) (r68_eq hy) rfl rfl rfl rfl) ?_
  conv => whnf
  all_goals (cases h)
  all_goals exact rfl
theorem ok67 (R12_turn : Int → Int → Option Int) (hS : SumsOK Try.prog (aget (sums67 R12_turn))) : SumOK Try.prog 67 (s67 (R12_RoundF R12_turn)) := by
  refine SumOK.of_leads tab_ok (fun ar r ha hr => ?_) ⟨Try.f67, rfl, by decide, rfl⟩
  simp only [s67] at ha hr
  unfold r67 at hr
  split at hr <;> try (cases hr; done)
  split at hr <;> cases hr
  rename_i x h
  refine ⟨_, rfl, (leads67 R12_turn hS _ _ _ _ x h).mono fun v H t hp => ?_⟩
  cases hp
  exact Res.val rfl trivial
def R12_Round : Int → Int → Int → Int → Option (Int × Int × Int × Int) := R12_RoundF R12_turn
theorem lift67 : SumOK Try.prog 67 (s67 R12_Round) := ok67 R12_turn (SumsOK.of_tab ⟨lift68, trivial⟩)
end Go.Vm.Code

namespace Go.Vm.Code
open Go Go.Vm Go.Proofs
set_option maxRecDepth 100000
set_option maxHeartbeats 4000000
set_option linter.unusedVariables false

/-! cloakroom/cloakroomref12.Mix -/
def R12_Mix_s1 (R12_Round : Int → Int → Int → Int → Option (Int × Int × Int × Int)) (rounds : Int) (a1 : Int) (b1 : Int) (c1 : Int) (d1 : Int) (i : Int) : Option (Sum (Int × Int × Int × Int × Int) Arr4_Int) :=
  cond (decide (i < rounds))
    (
    cond (decide (i < 64))
      (
      (R12_Round a1 b1 c1 d1).bind fun xr =>
      some (.inl (xr.1, xr.2.1, xr.2.2.1, xr.2.2.2, wI .i64 (i + 1))))
      (
      some (.inr (Arr4_Int.mk a1 b1 c1 d1))))
    (
    some (.inr (Arr4_Int.mk a1 b1 c1 d1)))
def R12_MixF (R12_Round : Int → Int → Int → Int → Option (Int × Int × Int × Int)) (a : Int) (b : Int) (c : Int) (d : Int) (rounds : Int) : Option Arr4_Int :=
  iter (fun st => R12_Mix_s1 R12_Round rounds st.1 st.2.1 st.2.2.1 st.2.2.2.1 st.2.2.2.2) FUEL (a, b, c, d, 0)
def post37 (x : Arr4_Int) (v : Value) (H : Hp) : Prop := v = .agg ⟨[.int .u64 x.e0, .int .u64 x.e1, .int .u64 x.e2, .int .u64 x.e3]⟩
def r37 (g : Int → Int → Int → Int → Int → Option Arr4_Int) : List SArg → Option SRes
  | [.v (.int .u64 a0_1), .v (.int .u64 a1_1), .v (.int .u64 a2_1), .v (.int .u64 a3_1), .v (.int .i64 a4_1)] => match g a0_1 a1_1 a2_1 a3_1 a4_1 with | some x => some ⟨.agg ⟨[.int .u64 x.e0, .int .u64 x.e1, .int .u64 x.e2, .int .u64 x.e3]⟩, [], []⟩ | none => none
  | _ => none
def s37 (g : Int → Int → Int → Int → Int → Option Arr4_Int) : Summ := ⟨[.v, .v, .v, .v, .v], r37 g⟩
theorem r37_eq {g : Int → Int → Int → Int → Int → Option Arr4_Int} {a0_1 : Int} {a1_1 : Int} {a2_1 : Int} {a3_1 : Int} {a4_1 : Int} {x : Arr4_Int} (hx : g a0_1 a1_1 a2_1 a3_1 a4_1 = some x) : (s37 g).run [.v (.int .u64 a0_1), .v (.int .u64 a1_1), .v (.int .u64 a2_1), .v (.int .u64 a3_1), .v (.int .i64 a4_1)] = some ⟨.agg ⟨[.int .u64 x.e0, .int .u64 x.e1, .int .u64 x.e2, .int .u64 x.e3]⟩, [], []⟩ := by
  show r37 g [.v (.int .u64 a0_1), .v (.int .u64 a1_1), .v (.int .u64 a2_1), .v (.int .u64 a3_1), .v (.int .i64 a4_1)] = _
  simp only [r37, hx]
abbrev sums37 (R12_Round : Int → Int → Int → Int → Option (Int × Int × Int × Int)) : List (Nat × Summ) := [(67, s67 R12_Round)]
def head37_1 (rounds : Int) (a1 : Int) (b1 : Int) (c1 : Int) (d1 : Int) (i : Int) : VM :=
  ⟨⟨37, 36, [(0, .int .u64 a1), (1, .int .u64 b1), (2, .int .u64 c1), (3, .int .u64 d1), (4, .int .i64 rounds), (10, .pointer (some ⟨0, 0, none⟩)), (11, .int .i64 i)], [.code k37_9, .inLoop k37_9, .inBlock 0, .code k37_14], [], false, none⟩, [], [(0, .cells [.int .u64 0, .int .u64 0, .int .u64 0, .int .u64 0])], 1⟩
theorem loop37_1 (R12_Round : Int → Int → Int → Int → Option (Int × Int × Int × Int)) (hS : SumsOK Try.prog (aget (sums37 R12_Round))) (rounds : Int) (res : Arr4_Int) : ∀ fuel (st : Int × Int × Int × Int × Int) (o : Arr4_Int), iter (fun st => R12_Mix_s1 R12_Round rounds st.1 st.2.1 st.2.2.1 st.2.2.2.1 st.2.2.2.2) fuel st = some o → (o = res) →
    Leads Try.prog 37 0 (head37_1 rounds st.1 st.2.1 st.2.2.1 st.2.2.2.1 st.2.2.2.2) (fun v H _ => post37 res v H) := by
  intro fuel st o h hc
  refine iter_leads (head := fun st => head37_1 rounds st.1 st.2.1 st.2.2.1 st.2.2.2.1 st.2.2.2.2) (C := fun o => (o = res)) ?_ fuel st o h hc
  clear h hc o st fuel
  intro st o h hc
  obtain ⟨a1, b1, c1, d1, i⟩ := st
  replace h : R12_Mix_s1 R12_Round rounds a1 b1 c1 d1 i = some o := h
  show Leads Try.prog 37 0 (head37_1 rounds a1 b1 c1 d1 i) (fun v H _ => post37 res v H)
  unfold R12_Mix_s1 at h
  refine ev_ok tab_ok hS true 3000 ?_
  conv => whnf
  refine br.h2 h ?_ ?_ ?_
  · rfl
  · clear h; intro hb h; conv => whnf
    all_goals (cases h; cases hc)
    all_goals exact rfl
  clear h; intro hb h; conv => whnf
  refine br.h2 h ?_ ?_ ?_
  · rfl
  · clear h; intro hb h; conv => whnf
    all_goals (cases h; cases hc)
    all_goals exact rfl
  clear h; intro hb h; conv => whnf
  obtain ⟨xr, hy, h2⟩ := obind.elim h; clear h; have h := h2; clear h2
  refine sumK.introF [] (sumRun_of (aqs := [.v (.int .u64 a1), .v (.int .u64 b1), .v (.int .u64 c1), .v (.int .u64 d1)]) (ra_cons rfl (ra_cons rfl (ra_cons rfl (ra_cons rfl ra_nil)))) (r67_eq hy) rfl rfl rfl rfl) ?_
  conv => whnf
  cases h; simp only [Sum.elim_inl, Sum.elim_inr, head37_1] at hc
  refine Leads.re hc [(0, 0)] rfl ?_ ?_ <;> (repeat' first | exact trivial | refine ⟨⟨_, rfl, rfl⟩, ?_⟩ | refine ⟨⟨_, _, rfl, rfl, .rowF (vI_flat _ _) id⟩, ?_⟩ | refine ⟨⟨_, _, rfl, rfl, .rowF (vS_flat _) id⟩, ?_⟩ | refine ⟨⟨_, _, rfl, rfl, .rowF (vB_flat _) id⟩, ?_⟩ | refine ⟨⟨_, _, rfl, rfl, .cells rfl⟩, ?_⟩ | refine ⟨⟨_, _, rfl, rfl, .row rfl id⟩, ?_⟩ | refine ⟨⟨_, _, rfl, rfl, .cr rfl⟩, ?_⟩ | refine ⟨⟨_, _, rfl, rfl, .rc rfl⟩, ?_⟩ | refine ⟨⟨_, _, rfl, rfl, .marks⟩, ?_⟩ | refine ⟨⟨_, _, rfl, rfl, .siter _ _⟩, ?_⟩ | refine ⟨⟨_, _, rfl, rfl, .loop rfl rfl rfl rfl (by repeat' first | exact trivial | refine ⟨rfl, ?_⟩) rfl rfl rfl rfl⟩, ?_⟩)
theorem leads37 (R12_Round : Int → Int → Int → Int → Option (Int × Int × Int × Int)) (hS : SumsOK Try.prog (aget (sums37 R12_Round))) (a : Int) (b : Int) (c : Int) (d : Int) (rounds : Int) (res : Arr4_Int) (h : R12_MixF R12_Round a b c d rounds = some res) :
    Leads Try.prog 37 0 ⟨⟨37, 36, [(0, .int .u64 a), (1, .int .u64 b), (2, .int .u64 c), (3, .int .u64 d), (4, .int .i64 rounds)], [.code k37_16], [], false, none⟩, [], [], 0⟩ (fun v H _ => post37 res v H) := by
  unfold R12_MixF at h
  refine ev_ok tab_ok hS true 3000 ?_
  conv => whnf
  have hl := loop37_1 R12_Round hS _ res _ _ _ h rfl; simp only [head37_1] at hl
  refine Leads.re hl [(0, 0)] rfl ?_ ?_ <;> (repeat' first | exact trivial | refine ⟨⟨_, rfl, rfl⟩, ?_⟩ | refine ⟨⟨_, _, rfl, rfl, .rowF (vI_flat _ _) id⟩, ?_⟩ | refine ⟨⟨_, _, rfl, rfl, .rowF (vS_flat _) id⟩, ?_⟩ | refine ⟨⟨_, _, rfl, rfl, .rowF (vB_flat _) id⟩, ?_⟩ | refine ⟨⟨_, _, rfl, rfl, .cells rfl⟩, ?_⟩ | refine ⟨⟨_, _, rfl, rfl, .row rfl id⟩, ?_⟩ | refine ⟨⟨_, _, rfl, rfl, .cr rfl⟩, ?_⟩ | refine ⟨⟨_, _, rfl, rfl, .rc rfl⟩, ?_⟩ | refine ⟨⟨_, _, rfl, rfl, .marks⟩, ?_⟩ | refine ⟨⟨_, _, rfl, rfl, .siter _ _⟩, ?_⟩ | refine ⟨⟨_, _, rfl, rfl, .loop rfl rfl rfl rfl (by repeat' first | exact trivial | refine ⟨rfl, ?_⟩) rfl rfl rfl rfl⟩, ?_⟩)
theorem ok37 (R12_Round : Int → Int → Int → Int → Option (Int × Int × Int × Int)) (hS : SumsOK Try.prog (aget (sums37 R12_Round))) : SumOK Try.prog 37 (s37 (R12_MixF R12_Round)) := by
  refine SumOK.of_leads tab_ok (fun ar r ha hr => ?_) ⟨Try.f37, rfl, by decide, rfl⟩
  simp only [s37] at ha hr
  unfold r37 at hr
  split at hr <;> try (cases hr; done)
  split at hr <;> cases hr
  rename_i x h
  refine ⟨_, rfl, (leads37 R12_Round hS _ _ _ _ _ x h).mono fun v H t hp => ?_⟩
  cases hp
  exact Res.val rfl trivial
def R12_Mix : Int → Int → Int → Int → Int → Option Arr4_Int := R12_MixF R12_Round
theorem lift37 : SumOK Try.prog 37 (s37 R12_Mix) := ok37 R12_Round (SumsOK.of_tab ⟨lift67, trivial⟩)
end Go.Vm.Code

namespace Go.Vm.Code
open Go Go.Vm Go.Proofs
set_option maxRecDepth 100000
set_option maxHeartbeats 4000000
set_option linter.unusedVariables false

/-! cloakroom/sip.New -/
def sip_NewF (k : api_Key) : Option sip_Hasher :=
  some (sip_Hasher.mk true (Arr4_Int.mk (ixorI .u64 8317987319222330741 k.A) (ixorI .u64 7237128888997146477 k.B) (ixorI .u64 7816392313619706465 k.A) (ixorI .u64 8387220255154660723 k.B)) 0 0)
def post31 (x : sip_Hasher) (v : Value) (H : Hp) : Prop := ∃ j, 0 ≤ j ∧ (aget H j = some (.row true [.bool x.made, .int .u64 x.s.e0, .int .u64 x.s.e1, .int .u64 x.s.e2, .int .u64 x.s.e3, .int .u64 x.last, .int .i64 x.count]) ∨ aget H j = some (.cells [.bool x.made, .int .u64 x.s.e0, .int .u64 x.s.e1, .int .u64 x.s.e2, .int .u64 x.s.e3, .int .u64 x.last, .int .i64 x.count])) ∧ v = .pointer (some ⟨j, 0, none⟩)
def r31 (g : api_Key → Option sip_Hasher) : List SArg → Option SRes
  | [.v (.agg ⟨[.int .u64 a0_1, .int .u64 a0_2]⟩)] => match g (api_Key.mk a0_1 a0_2) with | some x => some ⟨.pointer (some ⟨0, 0, none⟩), [[.bool x.made, .int .u64 x.s.e0, .int .u64 x.s.e1, .int .u64 x.s.e2, .int .u64 x.s.e3, .int .u64 x.last, .int .i64 x.count]], []⟩ | none => none
  | _ => none
def s31 (g : api_Key → Option sip_Hasher) : Summ := ⟨[.v], r31 g⟩
theorem r31_eq {g : api_Key → Option sip_Hasher} {a0_1 : Int} {a0_2 : Int} {x : sip_Hasher} (hx : g (api_Key.mk a0_1 a0_2) = some x) : (s31 g).run [.v (.agg ⟨[.int .u64 a0_1, .int .u64 a0_2]⟩)] = some ⟨.pointer (some ⟨0, 0, none⟩), [[.bool x.made, .int .u64 x.s.e0, .int .u64 x.s.e1, .int .u64 x.s.e2, .int .u64 x.s.e3, .int .u64 x.last, .int .i64 x.count]], []⟩ := by
  show r31 g [.v (.agg ⟨[.int .u64 a0_1, .int .u64 a0_2]⟩)] = _
  simp only [r31, hx]
abbrev sums31 : List (Nat × Summ) := []
theorem leads31 (hS : SumsOK Try.prog (aget (sums31))) (k : api_Key) (res : sip_Hasher) (h : sip_NewF k = some res) :
    Leads Try.prog 31 0 ⟨⟨31, 18, [(0, .agg ⟨[.int .u64 k.A, .int .u64 k.B]⟩)], [.code k31_3], [], false, none⟩, [], [], 0⟩ (fun v H _ => post31 res v H) := by
  unfold sip_NewF at h
  refine ev_ok tab_ok hS true 3000 ?_
  conv => whnf
  all_goals (cases h)
  all_goals exact ⟨1, by omega, .inr rfl, rfl⟩
theorem ok31 (hS : SumsOK Try.prog (aget (sums31))) : SumOK Try.prog 31 (s31 (sip_NewF)) := by
  refine SumOK.of_leads tab_ok (fun ar r ha hr => ?_) ⟨Try.f31, rfl, by decide, rfl⟩
  simp only [s31] at ha hr
  unfold r31 at hr
  split at hr <;> try (cases hr; done)
  split at hr <;> cases hr
  rename_i x h
  refine ⟨_, rfl, (leads31 hS _ x h).mono fun v H t hp => ?_⟩
  obtain ⟨j, hj, hc, hp⟩ := hp
  cases hp
  exact Res.one j rfl hc trivial hj
def sip_New : api_Key → Option sip_Hasher := sip_NewF
theorem lift31 : SumOK Try.prog 31 (s31 sip_New) := ok31 (SumsOK.of_tab trivial)
end Go.Vm.Code

namespace Go.Vm.Code
open Go Go.Vm Go.Proofs
set_option maxRecDepth 100000
set_option maxHeartbeats 4000000
set_option linter.unusedVariables false

/-! math/bits.RotateLeft64 -/
def math_bits_RotateLeft64F (x : Int) (k : Int) : Option Int :=
  oreq (decide (0 ≤ (andI .u64 (wI .u64 k) 63))) <|
  let t := wI .u64 (x * 2 ^ (min (andI .u64 (wI .u64 k) 63).toNat 64))
  let t1 := wI .u64 (64 - (andI .u64 (wI .u64 k) 63))
  oreq (decide (0 ≤ t1)) <|
  let t2 := iorI .u64 t (x.fdiv (2 ^ (min t1.toNat 64)))
  some (t2)
def post97 (x : Int) (v : Value) (H : Hp) : Prop := v = .int .u64 x
def r97 (g : Int → Int → Option Int) : List SArg → Option SRes
  | [.v (.int .u64 a0_1), .v (.int .i64 a1_1)] => match g a0_1 a1_1 with | some x => some ⟨.int .u64 x, [], []⟩ | none => none
  | _ => none
def s97 (g : Int → Int → Option Int) : Summ := ⟨[.v, .v], r97 g⟩
theorem r97_eq {g : Int → Int → Option Int} {a0_1 : Int} {a1_1 : Int} {x : Int} (hx : g a0_1 a1_1 = some x) : (s97 g).run [.v (.int .u64 a0_1), .v (.int .i64 a1_1)] = some ⟨.int .u64 x, [], []⟩ := by
  show r97 g [.v (.int .u64 a0_1), .v (.int .i64 a1_1)] = _
  simp only [r97, hx]
abbrev sums97 : List (Nat × Summ) := []
theorem leads97 (hS : SumsOK Try.prog (aget (sums97))) (x : Int) (k : Int) (res : Int) (h : math_bits_RotateLeft64F x k = some res) :
    Leads Try.prog 97 0 ⟨⟨97, 17, [(0, .int .u64 x), (1, .int .i64 k)], [.code k97_5], [], false, none⟩, [], [], 0⟩ (fun v H _ => post97 res v H) := by
  unfold math_bits_RotateLeft64F at h
  refine ev_ok tab_ok hS true 3000 ?_
  conv => whnf
  replace h := oreq.elim h; have hb := h.1; replace h := h.2
  first | (refine req.intro hb ?_; conv => whnf) | skip
  let t : Int := wI .u64 (x * 2 ^ (min (andI .u64 (wI .u64 k) 63).toNat 64))
  let t1 : Int := wI .u64 (64 - (andI .u64 (wI .u64 k) 63))
  replace h := oreq.elim h; have hb := h.1; replace h := h.2
  first | (refine req.intro hb ?_; conv => whnf) | skip
  let t2 : Int := iorI .u64 t (x.fdiv (2 ^ (min t1.toNat 64)))
  all_goals (cases h)
  all_goals exact rfl
theorem ok97 (hS : SumsOK Try.prog (aget (sums97))) : SumOK Try.prog 97 (s97 (math_bits_RotateLeft64F)) := by
  refine SumOK.of_leads tab_ok (fun ar r ha hr => ?_) ⟨Try.f97, rfl, by decide, rfl⟩
  simp only [s97] at ha hr
  unfold r97 at hr
  split at hr <;> try (cases hr; done)
  split at hr <;> cases hr
  rename_i x h
  refine ⟨_, rfl, (leads97 hS _ _ x h).mono fun v H t hp => ?_⟩
  cases hp
  exact Res.val rfl trivial
def math_bits_RotateLeft64 : Int → Int → Option Int := math_bits_RotateLeft64F
theorem lift97 : SumOK Try.prog 97 (s97 math_bits_RotateLeft64) := ok97 (SumsOK.of_tab trivial)
end Go.Vm.Code

namespace Go.Vm.Code
open Go Go.Vm Go.Proofs
set_option maxRecDepth 100000
set_option maxHeartbeats 4000000
set_option linter.unusedVariables false

/-! (*cloakroom/sip.state).round -/
def sip_state_roundF (math_bits_RotateLeft64 : Int → Int → Option Int) (s : Arr4_Int) : Option Arr4_Int :=
  (math_bits_RotateLeft64 s.e1 13).bind fun xr =>
  (math_bits_RotateLeft64 (wI .u64 (s.e0 + s.e1)) 32).bind fun xr1 =>
  (math_bits_RotateLeft64 s.e3 16).bind fun xr2 =>
  let t := wI .u64 (xr1 + (ixorI .u64 xr2 (wI .u64 (s.e2 + s.e3))))
  (math_bits_RotateLeft64 (ixorI .u64 xr2 (wI .u64 (s.e2 + s.e3))) 21).bind fun xr3 =>
  let t1 := wI .u64 ((wI .u64 (s.e2 + s.e3)) + (ixorI .u64 xr (wI .u64 (s.e0 + s.e1))))
  (math_bits_RotateLeft64 (ixorI .u64 xr (wI .u64 (s.e0 + s.e1))) 17).bind fun xr4 =>
  (math_bits_RotateLeft64 t1 32).bind fun xr5 =>
  some (Arr4_Int.mk t (ixorI .u64 xr4 t1) xr5 (ixorI .u64 xr3 t))
def post93 (x : Arr4_Int) (v : Value) (H : Hp) : Prop := v = .tuple ⟨[]⟩ ∧ aget H 0 = some (.cells [.int .u64 x.e0, .int .u64 x.e1, .int .u64 x.e2, .int .u64 x.e3])
def r93 (g : Arr4_Int → Option Arr4_Int) : List SArg → Option SRes
  | [.pt [.int .u64 a0_1, .int .u64 a0_2, .int .u64 a0_3, .int .u64 a0_4]] => match g (Arr4_Int.mk a0_1 a0_2 a0_3 a0_4) with | some x => some ⟨.tuple ⟨[]⟩, [], [[.int .u64 x.e0, .int .u64 x.e1, .int .u64 x.e2, .int .u64 x.e3]]⟩ | none => none
  | _ => none
def s93 (g : Arr4_Int → Option Arr4_Int) : Summ := ⟨[.pt 4], r93 g⟩
theorem r93_eq {g : Arr4_Int → Option Arr4_Int} {a0_1 : Int} {a0_2 : Int} {a0_3 : Int} {a0_4 : Int} {x : Arr4_Int} (hx : g (Arr4_Int.mk a0_1 a0_2 a0_3 a0_4) = some x) : (s93 g).run [.pt [.int .u64 a0_1, .int .u64 a0_2, .int .u64 a0_3, .int .u64 a0_4]] = some ⟨.tuple ⟨[]⟩, [], [[.int .u64 x.e0, .int .u64 x.e1, .int .u64 x.e2, .int .u64 x.e3]]⟩ := by
  show r93 g [.pt [.int .u64 a0_1, .int .u64 a0_2, .int .u64 a0_3, .int .u64 a0_4]] = _
  simp only [r93, hx]
abbrev sums93 (math_bits_RotateLeft64 : Int → Int → Option Int) : List (Nat × Summ) := [(97, s97 math_bits_RotateLeft64)]
theorem leads93 (math_bits_RotateLeft64 : Int → Int → Option Int) (hS : SumsOK Try.prog (aget (sums93 math_bits_RotateLeft64))) (s : Arr4_Int) (res : Arr4_Int) (h : sip_state_roundF math_bits_RotateLeft64 s = some res) :
    Leads Try.prog 93 1 ⟨⟨93, 114, [(0, .pointer (some ⟨0, 0, none⟩))], [.code k93_18], [], false, none⟩, [], [(0, .cells [.int .u64 s.e0, .int .u64 s.e1, .int .u64 s.e2, .int .u64 s.e3])], 1⟩ (fun v H _ => post93 res v H) := by
  unfold sip_state_roundF at h
  refine ev_ok tab_ok hS true 3000 ?_
  conv => whnf
  obtain ⟨xr, hy, h2⟩ := obind.elim h; clear h; have h := h2; clear h2
  refine sumK.introF [] (sumRun_of (aqs := [.v (.int .u64 s.e1), .v (.int .i64 13)]) (ra_cons rfl (ra_cons rfl ra_nil)) (r97_eq hy) rfl rfl rfl rfl) ?_
  conv => whnf
  obtain ⟨xr1, hy, h2⟩ := obind.elim h; clear h; have h := h2; clear h2
  refine sumK.introF [] (sumRun_of (aqs := [.v (.int .u64 (wI .u64 (s.e0 + s.e1))), .v (.int .i64 32)]) (ra_cons rfl (ra_cons rfl ra_nil)) (r97_eq hy) rfl rfl rfl rfl) ?_
  conv => whnf
  obtain ⟨xr2, hy, h2⟩ := obind.elim h; clear h; have h := h2; clear h2
  refine sumK.introF [] (sumRun_of (aqs := [.v (.int .u64 s.e3), .v (.int .i64 16)]) (ra_cons rfl (ra_cons rfl ra_nil)) (r97_eq hy) rfl rfl rfl rfl) ?_
  conv => whnf
  let t : Int := wI .u64 (xr1 + (ixorI .u64 xr2 (wI .u64 (s.e2 + s.e3))))
  obtain ⟨xr3, hy, h2⟩ := obind.elim h; clear h; have h := h2; clear h2
  refine sumK.introF [] (sumRun_of (aqs := [.v (.int .u64 (ixorI .u64 xr2 (wI .u64 (s.e2 + s.e3)))), .v (.int .i64 21)]) (ra_cons rfl (ra_cons rfl ra_nil)) (r97_eq hy) rfl rfl rfl rfl) ?_
  conv => whnf
  let t1 : Int := wI .u64 ((wI .u64 (s.e2 + s.e3)) + (ixorI .u64 xr (wI .u64 (s.e0 + s.e1))))
  obtain ⟨xr4, hy, h2⟩ := obind.elim h; clear h; have h := h2; clear h2
  refine sumK.introF [] (sumRun_of (aqs := [.v (.int .u64 (ixorI .u64 xr (wI .u64 (s.e0 + s.e1)))), .v (.int .i64 17)]) (ra_cons rfl (ra_cons rfl ra_nil)) (r97_eq hy) rfl rfl rfl rfl) ?_
  conv => whnf
  obtain ⟨xr5, hy, h2⟩ := obind.elim h; clear h; have h := h2; clear h2
  refine sumK.introF [] (sumRun_of (aqs := [.v (.int .u64 t1), .v (.int .i64 32)]) (ra_cons rfl (ra_cons rfl ra_nil)) (r97_eq hy) rfl rfl rfl rfl) ?_
  conv => whnf
  all_goals (cases h)
  all_goals exact ⟨rfl, rfl⟩
theorem ok93 (math_bits_RotateLeft64 : Int → Int → Option Int) (hS : SumsOK Try.prog (aget (sums93 math_bits_RotateLeft64))) : SumOK Try.prog 93 (s93 (sip_state_roundF math_bits_RotateLeft64)) := by
  refine SumOK.of_leads tab_ok (fun ar r ha hr => ?_) ⟨Try.f93, rfl, by decide, rfl⟩
  simp only [s93] at ha hr
  unfold r93 at hr
  split at hr <;> try (cases hr; done)
  split at hr <;> cases hr
  rename_i x h
  refine ⟨_, rfl, (leads93 math_bits_RotateLeft64 hS _ x h).mono fun v H t hp => ?_⟩
  obtain ⟨rfl, h0⟩ := hp
  exact Res.val rfl ⟨h0, rfl, trivial⟩
def sip_state_round : Arr4_Int → Option Arr4_Int := sip_state_roundF math_bits_RotateLeft64
theorem lift93 : SumOK Try.prog 93 (s93 sip_state_round) := ok93 math_bits_RotateLeft64 (SumsOK.of_tab ⟨lift97, trivial⟩)
end Go.Vm.Code

namespace Go.Vm.Code
open Go Go.Vm Go.Proofs
set_option maxRecDepth 100000
set_option maxHeartbeats 4000000
set_option linter.unusedVariables false

/-! (*cloakroom/sip.state).mix -/
def sip_state_mix_s1 (sip_state_round : Arr4_Int → Option Arr4_Int) (t : Int) (t7 : Int) (s1 : Int) (s2 : Int) (s3 : Int) (s4 : Int) : Option (Sum (Int × Int × Int × Int × Int) Arr4_Int) :=
  cond (decide (t7 < t))
    (
    (sip_state_round (Arr4_Int.mk s1 s2 s3 s4)).bind fun xr =>
    some (.inl (wI .i64 (t7 + 1), xr.e0, xr.e1, xr.e2, xr.e3)))
    (
    some (.inr (Arr4_Int.mk s1 s2 s3 s4)))
def sip_state_mixF (sip_state_round : Arr4_Int → Option Arr4_Int) (s : Arr4_Int) (rounds : Int) : Option Arr4_Int :=
  let t := if (if 64 < rounds then 64 else rounds) > 0 then if 64 < rounds then 64 else rounds else 0
  iter (fun st => sip_state_mix_s1 sip_state_round t st.1 st.2.1 st.2.2.1 st.2.2.2.1 st.2.2.2.2) FUEL (0, s.e0, s.e1, s.e2, s.e3)
def post65 (x : Arr4_Int) (v : Value) (H : Hp) : Prop := v = .tuple ⟨[]⟩ ∧ aget H 0 = some (.cells [.int .u64 x.e0, .int .u64 x.e1, .int .u64 x.e2, .int .u64 x.e3])
def r65 (g : Arr4_Int → Int → Option Arr4_Int) : List SArg → Option SRes
  | [.pt [.int .u64 a0_1, .int .u64 a0_2, .int .u64 a0_3, .int .u64 a0_4], .v (.int .i64 a1_1)] => match g (Arr4_Int.mk a0_1 a0_2 a0_3 a0_4) a1_1 with | some x => some ⟨.tuple ⟨[]⟩, [], [[.int .u64 x.e0, .int .u64 x.e1, .int .u64 x.e2, .int .u64 x.e3]]⟩ | none => none
  | _ => none
def s65 (g : Arr4_Int → Int → Option Arr4_Int) : Summ := ⟨[.pt 4, .v], r65 g⟩
theorem r65_eq {g : Arr4_Int → Int → Option Arr4_Int} {a0_1 : Int} {a0_2 : Int} {a0_3 : Int} {a0_4 : Int} {a1_1 : Int} {x : Arr4_Int} (hx : g (Arr4_Int.mk a0_1 a0_2 a0_3 a0_4) a1_1 = some x) : (s65 g).run [.pt [.int .u64 a0_1, .int .u64 a0_2, .int .u64 a0_3, .int .u64 a0_4], .v (.int .i64 a1_1)] = some ⟨.tuple ⟨[]⟩, [], [[.int .u64 x.e0, .int .u64 x.e1, .int .u64 x.e2, .int .u64 x.e3]]⟩ := by
  show r65 g [.pt [.int .u64 a0_1, .int .u64 a0_2, .int .u64 a0_3, .int .u64 a0_4], .v (.int .i64 a1_1)] = _
  simp only [r65, hx]
abbrev sums65 (sip_state_round : Arr4_Int → Option Arr4_Int) : List (Nat × Summ) := [(93, s93 sip_state_round)]
def head65_1 (t : Int) (t7 : Int) (s1 : Int) (s2 : Int) (s3 : Int) (s4 : Int) : VM :=
  ⟨⟨65, 12, [(0, .pointer (some ⟨0, 0, none⟩)), (6, .int .i64 t), (7, .int .i64 t7)], [.code k65_8, .inLoop k65_8, .inBlock 0], [], false, none⟩, [], [(0, .cells [.int .u64 s1, .int .u64 s2, .int .u64 s3, .int .u64 s4])], 1⟩
theorem loop65_1 (sip_state_round : Arr4_Int → Option Arr4_Int) (hS : SumsOK Try.prog (aget (sums65 sip_state_round))) (t : Int) (res : Arr4_Int) : ∀ fuel (st : Int × Int × Int × Int × Int) (o : Arr4_Int), iter (fun st => sip_state_mix_s1 sip_state_round t st.1 st.2.1 st.2.2.1 st.2.2.2.1 st.2.2.2.2) fuel st = some o → (o = res) →
    Leads Try.prog 65 1 (head65_1 t st.1 st.2.1 st.2.2.1 st.2.2.2.1 st.2.2.2.2) (fun v H _ => post65 res v H) := by
  intro fuel st o h hc
  refine iter_leads (head := fun st => head65_1 t st.1 st.2.1 st.2.2.1 st.2.2.2.1 st.2.2.2.2) (C := fun o => (o = res)) ?_ fuel st o h hc
  clear h hc o st fuel
  intro st o h hc
  obtain ⟨t7, s1, s2, s3, s4⟩ := st
  replace h : sip_state_mix_s1 sip_state_round t t7 s1 s2 s3 s4 = some o := h
  show Leads Try.prog 65 1 (head65_1 t t7 s1 s2 s3 s4) (fun v H _ => post65 res v H)
  unfold sip_state_mix_s1 at h
  refine ev_ok tab_ok hS true 3000 ?_
  conv => whnf
  refine br.h2 h ?_ ?_ ?_
  · rfl
  · clear h; intro hb h; conv => whnf
    all_goals (cases h; cases hc)
    all_goals exact ⟨rfl, rfl⟩
  clear h; intro hb h; conv => whnf
  obtain ⟨xr, hy, h2⟩ := obind.elim h; clear h; have h := h2; clear h2
  refine sumK.introF [0] (sumRun_of (aqs := [.pt [.int .u64 s1, .int .u64 s2, .int .u64 s3, .int .u64 s4]]) (ra_cons rfl ra_nil) (r93_eq hy) rfl rfl rfl rfl) ?_
  conv => whnf
  cases h; simp only [Sum.elim_inl, Sum.elim_inr, head65_1] at hc
  refine Leads.re hc [(0, 0)] rfl ?_ ?_ <;> (repeat' first | exact trivial | refine ⟨⟨_, rfl, rfl⟩, ?_⟩ | refine ⟨⟨_, _, rfl, rfl, .rowF (vI_flat _ _) id⟩, ?_⟩ | refine ⟨⟨_, _, rfl, rfl, .rowF (vS_flat _) id⟩, ?_⟩ | refine ⟨⟨_, _, rfl, rfl, .rowF (vB_flat _) id⟩, ?_⟩ | refine ⟨⟨_, _, rfl, rfl, .cells rfl⟩, ?_⟩ | refine ⟨⟨_, _, rfl, rfl, .row rfl id⟩, ?_⟩ | refine ⟨⟨_, _, rfl, rfl, .cr rfl⟩, ?_⟩ | refine ⟨⟨_, _, rfl, rfl, .rc rfl⟩, ?_⟩ | refine ⟨⟨_, _, rfl, rfl, .marks⟩, ?_⟩ | refine ⟨⟨_, _, rfl, rfl, .siter _ _⟩, ?_⟩ | refine ⟨⟨_, _, rfl, rfl, .loop rfl rfl rfl rfl (by repeat' first | exact trivial | refine ⟨rfl, ?_⟩) rfl rfl rfl rfl⟩, ?_⟩)
theorem leads65 (sip_state_round : Arr4_Int → Option Arr4_Int) (hS : SumsOK Try.prog (aget (sums65 sip_state_round))) (s : Arr4_Int) (rounds : Int) (res : Arr4_Int) (h : sip_state_mixF sip_state_round s rounds = some res) :
    Leads Try.prog 65 1 ⟨⟨65, 12, [(0, .pointer (some ⟨0, 0, none⟩)), (1, .int .i64 rounds)], [.code k65_11], [], false, none⟩, [], [(0, .cells [.int .u64 s.e0, .int .u64 s.e1, .int .u64 s.e2, .int .u64 s.e3])], 1⟩ (fun v H _ => post65 res v H) := by
  unfold sip_state_mixF at h
  refine ev_ok tab_ok hS true 3000 ?_
  conv => whnf
  let t : Int := if (if 64 < rounds then 64 else rounds) > 0 then if 64 < rounds then 64 else rounds else 0
  have hl := loop65_1 sip_state_round hS _ res _ _ _ h rfl; simp only [head65_1] at hl
  refine Leads.re hl [(0, 0)] rfl ?_ ?_ <;> (repeat' first | exact trivial | refine ⟨⟨_, rfl, rfl⟩, ?_⟩ | refine ⟨⟨_, _, rfl, rfl, .rowF (vI_flat _ _) id⟩, ?_⟩ | refine ⟨⟨_, _, rfl, rfl, .rowF (vS_flat _) id⟩, ?_⟩ | refine ⟨⟨_, _, rfl, rfl, .rowF (vB_flat _) id⟩, ?_⟩ | refine ⟨⟨_, _, rfl, rfl, .cells rfl⟩, ?_⟩ | refine ⟨⟨_, _, rfl, rfl, .row rfl id⟩, ?_⟩ | refine ⟨⟨_, _, rfl, rfl, .cr rfl⟩, ?_⟩ | refine ⟨⟨_, _, rfl, rfl, .rc rfl⟩, ?_⟩ | refine ⟨⟨_, _, rfl, rfl, .marks⟩, ?_⟩ | refine ⟨⟨_, _, rfl, rfl, .siter _ _⟩, ?_⟩ | refine ⟨⟨_, _, rfl, rfl, .loop rfl rfl rfl rfl (by repeat' first | exact trivial | refine ⟨rfl, ?_⟩) rfl rfl rfl rfl⟩, ?_⟩)
theorem ok65 (sip_state_round : Arr4_Int → Option Arr4_Int) (hS : SumsOK Try.prog (aget (sums65 sip_state_round))) : SumOK Try.prog 65 (s65 (sip_state_mixF sip_state_round)) := by
  refine SumOK.of_leads tab_ok (fun ar r ha hr => ?_) ⟨Try.f65, rfl, by decide, rfl⟩
  simp only [s65] at ha hr
  unfold r65 at hr
  split at hr <;> try (cases hr; done)
  split at hr <;> cases hr
  rename_i x h
  refine ⟨_, rfl, (leads65 sip_state_round hS _ _ x h).mono fun v H t hp => ?_⟩
  obtain ⟨rfl, h0⟩ := hp
  exact Res.val rfl ⟨h0, rfl, trivial⟩
def sip_state_mix : Arr4_Int → Int → Option Arr4_Int := sip_state_mixF sip_state_round
theorem lift65 : SumOK Try.prog 65 (s65 sip_state_mix) := ok65 sip_state_round (SumsOK.of_tab ⟨lift93, trivial⟩)
end Go.Vm.Code

namespace Go.Vm.Code
open Go Go.Vm Go.Proofs
set_option maxRecDepth 100000
set_option maxHeartbeats 4000000
set_option linter.unusedVariables false

/-! (*cloakroom/sip.state).take -/
def sip_state_takeF (sip_state_mix : Arr4_Int → Int → Option Arr4_Int) (s : Arr4_Int) (m : Int) : Option Arr4_Int :=
  (sip_state_mix (Arr4_Int.mk s.e0 s.e1 s.e2 (ixorI .u64 s.e3 m)) 2).bind fun m1 =>
  some (Arr4_Int.mk (ixorI .u64 m1.e0 m) m1.e1 m1.e2 m1.e3)
def post64 (x : Arr4_Int) (v : Value) (H : Hp) : Prop := v = .tuple ⟨[]⟩ ∧ aget H 0 = some (.cells [.int .u64 x.e0, .int .u64 x.e1, .int .u64 x.e2, .int .u64 x.e3])
def r64 (g : Arr4_Int → Int → Option Arr4_Int) : List SArg → Option SRes
  | [.pt [.int .u64 a0_1, .int .u64 a0_2, .int .u64 a0_3, .int .u64 a0_4], .v (.int .u64 a1_1)] => match g (Arr4_Int.mk a0_1 a0_2 a0_3 a0_4) a1_1 with | some x => some ⟨.tuple ⟨[]⟩, [], [[.int .u64 x.e0, .int .u64 x.e1, .int .u64 x.e2, .int .u64 x.e3]]⟩ | none => none
  | _ => none
def s64 (g : Arr4_Int → Int → Option Arr4_Int) : Summ := ⟨[.pt 4, .v], r64 g⟩
theorem r64_eq {g : Arr4_Int → Int → Option Arr4_Int} {a0_1 : Int} {a0_2 : Int} {a0_3 : Int} {a0_4 : Int} {a1_1 : Int} {x : Arr4_Int} (hx : g (Arr4_Int.mk a0_1 a0_2 a0_3 a0_4) a1_1 = some x) : (s64 g).run [.pt [.int .u64 a0_1, .int .u64 a0_2, .int .u64 a0_3, .int .u64 a0_4], .v (.int .u64 a1_1)] = some ⟨.tuple ⟨[]⟩, [], [[.int .u64 x.e0, .int .u64 x.e1, .int .u64 x.e2, .int .u64 x.e3]]⟩ := by
  show r64 g [.pt [.int .u64 a0_1, .int .u64 a0_2, .int .u64 a0_3, .int .u64 a0_4], .v (.int .u64 a1_1)] = _
  simp only [r64, hx]
abbrev sums64 (sip_state_mix : Arr4_Int → Int → Option Arr4_Int) : List (Nat × Summ) := [(65, s65 sip_state_mix)]
theorem leads64 (sip_state_mix : Arr4_Int → Int → Option Arr4_Int) (hS : SumsOK Try.prog (aget (sums64 sip_state_mix))) (s : Arr4_Int) (m : Int) (res : Arr4_Int) (h : sip_state_takeF sip_state_mix s m = some res) :
    Leads Try.prog 64 1 ⟨⟨64, 22, [(0, .pointer (some ⟨0, 0, none⟩)), (1, .int .u64 m)], [.code k64_4], [], false, none⟩, [], [(0, .cells [.int .u64 s.e0, .int .u64 s.e1, .int .u64 s.e2, .int .u64 s.e3])], 1⟩ (fun v H _ => post64 res v H) := by
  unfold sip_state_takeF at h
  refine ev_ok tab_ok hS true 3000 ?_
  conv => whnf
  obtain ⟨m1, hy, h2⟩ := obind.elim h; clear h; have h := h2; clear h2
  refine sumK.introF [0] (sumRun_of (aqs := [.pt [.int .u64 s.e0, .int .u64 s.e1, .int .u64 s.e2, .int .u64 (ixorI .u64 s.e3 m)], .v (.int .i64 2)]) (ra_cons rfl (ra_cons rfl ra_nil)) (r65_eq hy) rfl rfl rfl rfl) ?_
  conv => whnf
  all_goals (cases h)
  all_goals exact ⟨rfl, rfl⟩
theorem ok64 (sip_state_mix : Arr4_Int → Int → Option Arr4_Int) (hS : SumsOK Try.prog (aget (sums64 sip_state_mix))) : SumOK Try.prog 64 (s64 (sip_state_takeF sip_state_mix)) := by
  refine SumOK.of_leads tab_ok (fun ar r ha hr => ?_) ⟨Try.f64, rfl, by decide, rfl⟩
  simp only [s64] at ha hr
  unfold r64 at hr
  split at hr <;> try (cases hr; done)
  split at hr <;> cases hr
  rename_i x h
  refine ⟨_, rfl, (leads64 sip_state_mix hS _ _ x h).mono fun v H t hp => ?_⟩
  obtain ⟨rfl, h0⟩ := hp
  exact Res.val rfl ⟨h0, rfl, trivial⟩
def sip_state_take : Arr4_Int → Int → Option Arr4_Int := sip_state_takeF sip_state_mix
theorem lift64 : SumOK Try.prog 64 (s64 sip_state_take) := ok64 sip_state_mix (SumsOK.of_tab ⟨lift65, trivial⟩)
end Go.Vm.Code

namespace Go.Vm.Code
open Go Go.Vm Go.Proofs
set_option maxRecDepth 100000
set_option maxHeartbeats 4000000
set_option linter.unusedVariables false

/-! (*cloakroom/sip.Hasher).Write -/
def sip_Hasher_Write_nilF (s : List UInt8) : Option Unit :=
  some (())
def post32n (x : Unit) (v : Value) (H : Hp) : Prop := v = .tuple ⟨[]⟩
def r32n (g : (List UInt8) → Option Unit) : List SArg → Option SRes
  | [.v (.pointer none), .v (.string ⟨⟨a1_1⟩⟩)] => match g a1_1 with | some x => some ⟨.tuple ⟨[]⟩, [], []⟩ | none => none
  | _ => none
abbrev sums32n : List (Nat × Summ) := []
theorem leads32n (hS : SumsOK Try.prog (aget (sums32n))) (s : List UInt8) (res : Unit) (h : sip_Hasher_Write_nilF s = some res) :
    Leads Try.prog 32 0 ⟨⟨32, 63, [(0, .pointer none), (1, .string ⟨⟨s⟩⟩)], [.code k32_26], [], false, none⟩, [], [], 0⟩ (fun v H _ => post32n res v H) := by
  unfold sip_Hasher_Write_nilF at h
  refine ev_ok tab_ok hS true 3000 ?_
  conv => whnf
  all_goals (cases h)
  all_goals exact rfl
/-! (*cloakroom/sip.Hasher).Write -/
def sip_Hasher_Write_s1 (sip_state_take : Arr4_Int → Int → Option Arr4_Int) (ha0 : sip_Hasher) (s : List UInt8) (t18 : Int) (xh : Int) (xh1 : Int) (xh2 : Int) (xh3 : Int) (xh4 : Int) (xh5 : Int) : Option (Sum (Int × Int × Int × Int × Int × Int × Int) sip_Hasher) :=
  cond (decide (t18 < (s.length : Int)))
    (
    oreq (decide ((0 : Int) ≤ t18 ∧ t18 < (s.length : Int))) <|
    ((bI s)[t18.toNat]?).bind fun (e : Int) =>
    oreq (decide (0 ≤ (wI .i64 (8 * (xh5.tmod 8))))) <|
    let t := wI .u64 ((wI .u64 e) * 2 ^ (min (wI .i64 (8 * (xh5.tmod 8))).toNat 64))
    cond (((wI .i64 (xh5 + 1)).tmod 8) == 0)
      (
      (sip_state_take (Arr4_Int.mk xh xh1 xh2 xh3) (iorI .u64 xh4 t)).bind fun t1 =>
      some (.inl (wI .i64 (t18 + 1), t1.e0, t1.e1, t1.e2, t1.e3, 0, wI .i64 (xh5 + 1))))
      (
      some (.inl (wI .i64 (t18 + 1), xh, xh1, xh2, xh3, iorI .u64 xh4 t, wI .i64 (xh5 + 1)))))
    (
    some (.inr (sip_Hasher.mk ha0.made (Arr4_Int.mk xh xh1 xh2 xh3) xh4 xh5)))
def sip_Hasher_WriteF (sip_state_take : Arr4_Int → Int → Option Arr4_Int) (ha0 : sip_Hasher) (s : List UInt8) : Option sip_Hasher :=
  cond (!ha0.made)
    (
    some (ha0))
    (
    iter (fun st => sip_Hasher_Write_s1 sip_state_take ha0 s st.1 st.2.1 st.2.2.1 st.2.2.2.1 st.2.2.2.2.1 st.2.2.2.2.2.1 st.2.2.2.2.2.2) FUEL (0, ha0.s.e0, ha0.s.e1, ha0.s.e2, ha0.s.e3, ha0.last, ha0.count))
def post32 (x : sip_Hasher) (v : Value) (H : Hp) : Prop := v = .tuple ⟨[]⟩ ∧ aget H 0 = some (.cells [.bool x.made, .int .u64 x.s.e0, .int .u64 x.s.e1, .int .u64 x.s.e2, .int .u64 x.s.e3, .int .u64 x.last, .int .i64 x.count])
def r32 (g : sip_Hasher → (List UInt8) → Option sip_Hasher) : List SArg → Option SRes
  | [.pt [.bool a0_1, .int .u64 a0_2, .int .u64 a0_3, .int .u64 a0_4, .int .u64 a0_5, .int .u64 a0_6, .int .i64 a0_7], .v (.string ⟨⟨a1_1⟩⟩)] => match g (sip_Hasher.mk a0_1 (Arr4_Int.mk a0_2 a0_3 a0_4 a0_5) a0_6 a0_7) a1_1 with | some x => some ⟨.tuple ⟨[]⟩, [], [[.bool x.made, .int .u64 x.s.e0, .int .u64 x.s.e1, .int .u64 x.s.e2, .int .u64 x.s.e3, .int .u64 x.last, .int .i64 x.count]]⟩ | none => none
  | _ => none
def s32 (g : sip_Hasher → (List UInt8) → Option sip_Hasher) (g2 : (List UInt8) → Option Unit) : Summ := ⟨[.pt 7, .v], fun ar => match r32 g ar with | some r => some r | none => r32n g2 ar⟩
theorem r32_eq {g : sip_Hasher → (List UInt8) → Option sip_Hasher} {g2 : (List UInt8) → Option Unit} {a0_1 : Bool} {a0_2 : Int} {a0_3 : Int} {a0_4 : Int} {a0_5 : Int} {a0_6 : Int} {a0_7 : Int} {a1_1 : List UInt8} {x : sip_Hasher} (hx : g (sip_Hasher.mk a0_1 (Arr4_Int.mk a0_2 a0_3 a0_4 a0_5) a0_6 a0_7) a1_1 = some x) : (s32 g g2).run [.pt [.bool a0_1, .int .u64 a0_2, .int .u64 a0_3, .int .u64 a0_4, .int .u64 a0_5, .int .u64 a0_6, .int .i64 a0_7], .v (.string ⟨⟨a1_1⟩⟩)] = some ⟨.tuple ⟨[]⟩, [], [[.bool x.made, .int .u64 x.s.e0, .int .u64 x.s.e1, .int .u64 x.s.e2, .int .u64 x.s.e3, .int .u64 x.last, .int .i64 x.count]]⟩ := by
  show (match r32 g [.pt [.bool a0_1, .int .u64 a0_2, .int .u64 a0_3, .int .u64 a0_4, .int .u64 a0_5, .int .u64 a0_6, .int .i64 a0_7], .v (.string ⟨⟨a1_1⟩⟩)] with | some r => some r | none => r32n g2 [.pt [.bool a0_1, .int .u64 a0_2, .int .u64 a0_3, .int .u64 a0_4, .int .u64 a0_5, .int .u64 a0_6, .int .i64 a0_7], .v (.string ⟨⟨a1_1⟩⟩)]) = _
  simp only [r32, r32n, hx]
theorem r32n_eq {g : sip_Hasher → (List UInt8) → Option sip_Hasher} {g2 : (List UInt8) → Option Unit} {a1_1 : List UInt8} {x : Unit} (hx : g2 a1_1 = some x) : (s32 g g2).run [.v (.pointer none), .v (.string ⟨⟨a1_1⟩⟩)] = some ⟨.tuple ⟨[]⟩, [], []⟩ := by
  show (match r32 g [.v (.pointer none), .v (.string ⟨⟨a1_1⟩⟩)] with | some r => some r | none => r32n g2 [.v (.pointer none), .v (.string ⟨⟨a1_1⟩⟩)]) = _
  simp only [r32, r32n, hx]
abbrev sums32 (sip_state_take : Arr4_Int → Int → Option Arr4_Int) : List (Nat × Summ) := [(64, s64 sip_state_take)]
def head32_1 (ha0 : sip_Hasher) (s : List UInt8) (t18 : Int) (xh : Int) (xh1 : Int) (xh2 : Int) (xh3 : Int) (xh4 : Int) (xh5 : Int) : VM :=
  ⟨⟨32, 63, [(0, .pointer (some ⟨0, 0, none⟩)), (16, .slice (some ⟨1, 0, none⟩) s.length 1), (17, .int .i64 (s.length : Int)), (18, .int .i64 t18)], [.code k32_22, .inLoop k32_22, .inBlock 0], [], false, none⟩, [], [(0, .cells [.bool ha0.made, .int .u64 xh, .int .u64 xh1, .int .u64 xh2, .int .u64 xh3, .int .u64 xh4, .int .i64 xh5]), (1, .row true (vI .u8 (bI s)))], 2⟩
theorem loop32_1 (sip_state_take : Arr4_Int → Int → Option Arr4_Int) (hS : SumsOK Try.prog (aget (sums32 sip_state_take))) (ha0 : sip_Hasher) (s : List UInt8) (res : sip_Hasher) : ∀ fuel (st : Int × Int × Int × Int × Int × Int × Int) (o : sip_Hasher), iter (fun st => sip_Hasher_Write_s1 sip_state_take ha0 s st.1 st.2.1 st.2.2.1 st.2.2.2.1 st.2.2.2.2.1 st.2.2.2.2.2.1 st.2.2.2.2.2.2) fuel st = some o → (o = res) →
    Leads Try.prog 32 1 (head32_1 ha0 s st.1 st.2.1 st.2.2.1 st.2.2.2.1 st.2.2.2.2.1 st.2.2.2.2.2.1 st.2.2.2.2.2.2) (fun v H _ => post32 res v H) := by
  intro fuel st o h hc
  refine iter_leads (head := fun st => head32_1 ha0 s st.1 st.2.1 st.2.2.1 st.2.2.2.1 st.2.2.2.2.1 st.2.2.2.2.2.1 st.2.2.2.2.2.2) (C := fun o => (o = res)) ?_ fuel st o h hc
  clear h hc o st fuel
  intro st o h hc
  obtain ⟨t18, xh, xh1, xh2, xh3, xh4, xh5⟩ := st
  replace h : sip_Hasher_Write_s1 sip_state_take ha0 s t18 xh xh1 xh2 xh3 xh4 xh5 = some o := h
  show Leads Try.prog 32 1 (head32_1 ha0 s t18 xh xh1 xh2 xh3 xh4 xh5) (fun v H _ => post32 res v H)
  unfold sip_Hasher_Write_s1 at h
  refine ev_ok tab_ok hS true 3000 ?_
  conv => whnf
  refine br.h2 h ?_ ?_ ?_
  · rfl
  · clear h; intro hb h; conv => whnf
    all_goals (cases h; cases hc)
    all_goals exact ⟨rfl, rfl⟩
  clear h; intro hb h; conv => whnf
  replace h := oreq.elim h; have hb := h.1; replace h := h.2
  first | (refine req.intro hb ?_; conv => whnf) | skip
  obtain ⟨e, hy, h2⟩ := obind.elim h; clear h; have h := h2; clear h2
  refine rd.I hy (by first | rfl | (rw [Nat.zero_add, Nat.mul_one]; done) | omega) ?_
  conv => whnf
  replace h := oreq.elim h; have hb := h.1; replace h := h.2
  first | (refine req.intro hb ?_; conv => whnf) | skip
  let t : Int := wI .u64 ((wI .u64 e) * 2 ^ (min (wI .i64 (8 * (xh5.tmod 8))).toNat 64))
  refine br.h2 h ?_ ?_ ?_
  · rfl
  · clear h; intro hb h; conv => whnf
    cases h; simp only [Sum.elim_inl, Sum.elim_inr, head32_1] at hc
    refine Leads.re hc [(0, 0), (1, 1)] rfl ?_ ?_ <;> (repeat' first | exact trivial | refine ⟨⟨_, rfl, rfl⟩, ?_⟩ | refine ⟨⟨_, _, rfl, rfl, .rowF (vI_flat _ _) id⟩, ?_⟩ | refine ⟨⟨_, _, rfl, rfl, .rowF (vS_flat _) id⟩, ?_⟩ | refine ⟨⟨_, _, rfl, rfl, .rowF (vB_flat _) id⟩, ?_⟩ | refine ⟨⟨_, _, rfl, rfl, .cells rfl⟩, ?_⟩ | refine ⟨⟨_, _, rfl, rfl, .row rfl id⟩, ?_⟩ | refine ⟨⟨_, _, rfl, rfl, .cr rfl⟩, ?_⟩ | refine ⟨⟨_, _, rfl, rfl, .rc rfl⟩, ?_⟩ | refine ⟨⟨_, _, rfl, rfl, .marks⟩, ?_⟩ | refine ⟨⟨_, _, rfl, rfl, .siter _ _⟩, ?_⟩ | refine ⟨⟨_, _, rfl, rfl, .loop rfl rfl rfl rfl (by repeat' first | exact trivial | refine ⟨rfl, ?_⟩) rfl rfl rfl rfl⟩, ?_⟩)
  clear h; intro hb h; conv => whnf
  obtain ⟨t1, hy, h2⟩ := obind.elim h; clear h; have h := h2; clear h2
  refine sumK.introF [0] (sumRun_of (aqs := [.pt [.int .u64 xh, .int .u64 xh1, .int .u64 xh2, .int .u64 xh3], .v (.int .u64 (iorI .u64 xh4 t))]) (ra_cons rfl (ra_cons rfl ra_nil)) (r64_eq hy) rfl rfl rfl rfl) ?_
  conv => whnf
  cases h; simp only [Sum.elim_inl, Sum.elim_inr, head32_1] at hc
  refine Leads.re hc [(0, 0), (1, 1)] rfl ?_ ?_ <;> (repeat' first | exact trivial | refine ⟨⟨_, rfl, rfl⟩, ?_⟩ | refine ⟨⟨_, _, rfl, rfl, .rowF (vI_flat _ _) id⟩, ?_⟩ | refine ⟨⟨_, _, rfl, rfl, .rowF (vS_flat _) id⟩, ?_⟩ | refine ⟨⟨_, _, rfl, rfl, .rowF (vB_flat _) id⟩, ?_⟩ | refine ⟨⟨_, _, rfl, rfl, .cells rfl⟩, ?_⟩ | refine ⟨⟨_, _, rfl, rfl, .row rfl id⟩, ?_⟩ | refine ⟨⟨_, _, rfl, rfl, .cr rfl⟩, ?_⟩ | refine ⟨⟨_, _, rfl, rfl, .rc rfl⟩, ?_⟩ | refine ⟨⟨_, _, rfl, rfl, .marks⟩, ?_⟩ | refine ⟨⟨_, _, rfl, rfl, .siter _ _⟩, ?_⟩ | refine ⟨⟨_, _, rfl, rfl, .loop rfl rfl rfl rfl (by repeat' first | exact trivial | refine ⟨rfl, ?_⟩) rfl rfl rfl rfl⟩, ?_⟩)
theorem leads32 (sip_state_take : Arr4_Int → Int → Option Arr4_Int) (hS : SumsOK Try.prog (aget (sums32 sip_state_take))) (ha0 : sip_Hasher) (s : List UInt8) (res : sip_Hasher) (h : sip_Hasher_WriteF sip_state_take ha0 s = some res) :
    Leads Try.prog 32 1 ⟨⟨32, 63, [(0, .pointer (some ⟨0, 0, none⟩)), (1, .string ⟨⟨s⟩⟩)], [.code k32_26], [], false, none⟩, [], [(0, .cells [.bool ha0.made, .int .u64 ha0.s.e0, .int .u64 ha0.s.e1, .int .u64 ha0.s.e2, .int .u64 ha0.s.e3, .int .u64 ha0.last, .int .i64 ha0.count])], 1⟩ (fun v H _ => post32 res v H) := by
  unfold sip_Hasher_WriteF at h
  refine ev_ok tab_ok hS true 3000 ?_
  conv => whnf
  refine br.h h ?_ ?_ ?_
  · rfl
  · clear h; intro hb h; conv => whnf
    all_goals (cases h)
    all_goals exact ⟨rfl, rfl⟩
  clear h; intro hb h; conv => whnf
  refine pk_s2b ?_
  conv => whnf
  have hl := loop32_1 sip_state_take hS _ _ res _ _ _ h rfl; simp only [head32_1] at hl
  refine Leads.re hl [(0, 0), (1, 1)] rfl ?_ ?_ <;> (repeat' first | exact trivial | refine ⟨⟨_, rfl, rfl⟩, ?_⟩ | refine ⟨⟨_, _, rfl, rfl, .rowF (vI_flat _ _) id⟩, ?_⟩ | refine ⟨⟨_, _, rfl, rfl, .rowF (vS_flat _) id⟩, ?_⟩ | refine ⟨⟨_, _, rfl, rfl, .rowF (vB_flat _) id⟩, ?_⟩ | refine ⟨⟨_, _, rfl, rfl, .cells rfl⟩, ?_⟩ | refine ⟨⟨_, _, rfl, rfl, .row rfl id⟩, ?_⟩ | refine ⟨⟨_, _, rfl, rfl, .cr rfl⟩, ?_⟩ | refine ⟨⟨_, _, rfl, rfl, .rc rfl⟩, ?_⟩ | refine ⟨⟨_, _, rfl, rfl, .marks⟩, ?_⟩ | refine ⟨⟨_, _, rfl, rfl, .siter _ _⟩, ?_⟩ | refine ⟨⟨_, _, rfl, rfl, .loop rfl rfl rfl rfl (by repeat' first | exact trivial | refine ⟨rfl, ?_⟩) rfl rfl rfl rfl⟩, ?_⟩)
theorem ok32 (sip_state_take : Arr4_Int → Int → Option Arr4_Int) (hS : SumsOK Try.prog (aget (sums32 sip_state_take))) (hS2 : SumsOK Try.prog (aget (sums32n))) : SumOK Try.prog 32 (s32 (sip_Hasher_WriteF sip_state_take) (sip_Hasher_Write_nilF)) := by
  refine SumOK.of_leads tab_ok (fun ar r ha hr => ?_) ⟨Try.f32, rfl, by decide, rfl⟩
  simp only [s32] at ha hr
  split at hr
  · rename_i r0 hr0; cases hr; replace hr := hr0; clear hr0
    unfold r32 at hr
    split at hr <;> try (cases hr; done)
    split at hr <;> cases hr
    rename_i x h
    refine ⟨_, rfl, (leads32 sip_state_take hS _ _ x h).mono fun v H t hp => ?_⟩
    obtain ⟨rfl, h0⟩ := hp
    exact Res.val rfl ⟨h0, rfl, trivial⟩
  · skip
    unfold r32n at hr
    split at hr <;> try (cases hr; done)
    split at hr <;> cases hr
    rename_i x h
    refine ⟨_, rfl, (leads32n hS2 _ x h).mono fun v H t hp => ?_⟩
    cases hp
    exact Res.val rfl trivial
def sip_Hasher_Write : sip_Hasher → (List UInt8) → Option sip_Hasher := sip_Hasher_WriteF sip_state_take
def sip_Hasher_Write_nil : (List UInt8) → Option Unit := sip_Hasher_Write_nilF
theorem lift32 : SumOK Try.prog 32 (s32 sip_Hasher_Write sip_Hasher_Write_nil) := ok32 sip_state_take (SumsOK.of_tab ⟨lift64, trivial⟩) (SumsOK.of_tab trivial)
end Go.Vm.Code

namespace Go.Vm.Code
open Go Go.Vm Go.Proofs
set_option maxRecDepth 100000
set_option maxHeartbeats 4000000
set_option linter.unusedVariables false

/-! (*cloakroom/sip.Hasher).Sum -/
def sip_Hasher_Sum_nilF : Option Int :=
  some (0)
def post33n (x : Int) (v : Value) (H : Hp) : Prop := v = .int .u64 x
def r33n (g : Option Int) : List SArg → Option SRes
  | [.v (.pointer none)] => match g  with | some x => some ⟨.int .u64 x, [], []⟩ | none => none
  | _ => none
abbrev sums33n : List (Nat × Summ) := []
theorem leads33n (hS : SumsOK Try.prog (aget (sums33n))) (res : Int) (h : sip_Hasher_Sum_nilF = some res) :
    Leads Try.prog 33 0 ⟨⟨33, 45, [(0, .pointer none)], [.code k33_17], [], false, none⟩, [], [], 0⟩ (fun v H _ => post33n res v H) := by
  unfold sip_Hasher_Sum_nilF at h
  refine ev_ok tab_ok hS true 3000 ?_
  conv => whnf
  all_goals (cases h)
  all_goals exact rfl
/-! (*cloakroom/sip.Hasher).Sum -/
def sip_Hasher_SumF (sip_state_mix : Arr4_Int → Int → Option Arr4_Int) (sip_state_take : Arr4_Int → Int → Option Arr4_Int) (ha0 : sip_Hasher) : Option (Int × sip_Hasher) :=
  cond (!ha0.made)
    (
    some ((0, ha0)))
    (
    let t := iorI .u64 ha0.last (wI .u64 ((wI .u64 ha0.count) * 2 ^ 56))
    (sip_state_take ha0.s t).bind fun t1 =>
    (sip_state_mix (Arr4_Int.mk t1.e0 t1.e1 (ixorI .u64 t1.e2 255) t1.e3) 4).bind fun m =>
    let t2 := ixorI .u64 (ixorI .u64 (ixorI .u64 m.e0 m.e1) m.e2) m.e3
    some ((t2, ha0)))
def post33 (x : Int × sip_Hasher) (v : Value) (H : Hp) : Prop := v = .int .u64 x.1 ∧ aget H 0 = some (.cells [.bool x.2.made, .int .u64 x.2.s.e0, .int .u64 x.2.s.e1, .int .u64 x.2.s.e2, .int .u64 x.2.s.e3, .int .u64 x.2.last, .int .i64 x.2.count])
def r33 (g : sip_Hasher → Option (Int × sip_Hasher)) : List SArg → Option SRes
  | [.pt [.bool a0_1, .int .u64 a0_2, .int .u64 a0_3, .int .u64 a0_4, .int .u64 a0_5, .int .u64 a0_6, .int .i64 a0_7]] => match g (sip_Hasher.mk a0_1 (Arr4_Int.mk a0_2 a0_3 a0_4 a0_5) a0_6 a0_7) with | some x => some ⟨.int .u64 x.1, [], [[.bool x.2.made, .int .u64 x.2.s.e0, .int .u64 x.2.s.e1, .int .u64 x.2.s.e2, .int .u64 x.2.s.e3, .int .u64 x.2.last, .int .i64 x.2.count]]⟩ | none => none
  | _ => none
def s33 (g : sip_Hasher → Option (Int × sip_Hasher)) (g2 : Option Int) : Summ := ⟨[.pt 7], fun ar => match r33 g ar with | some r => some r | none => r33n g2 ar⟩
theorem r33_eq {g : sip_Hasher → Option (Int × sip_Hasher)} {g2 : Option Int} {a0_1 : Bool} {a0_2 : Int} {a0_3 : Int} {a0_4 : Int} {a0_5 : Int} {a0_6 : Int} {a0_7 : Int} {x : Int × sip_Hasher} (hx : g (sip_Hasher.mk a0_1 (Arr4_Int.mk a0_2 a0_3 a0_4 a0_5) a0_6 a0_7) = some x) : (s33 g g2).run [.pt [.bool a0_1, .int .u64 a0_2, .int .u64 a0_3, .int .u64 a0_4, .int .u64 a0_5, .int .u64 a0_6, .int .i64 a0_7]] = some ⟨.int .u64 x.1, [], [[.bool x.2.made, .int .u64 x.2.s.e0, .int .u64 x.2.s.e1, .int .u64 x.2.s.e2, .int .u64 x.2.s.e3, .int .u64 x.2.last, .int .i64 x.2.count]]⟩ := by
  show (match r33 g [.pt [.bool a0_1, .int .u64 a0_2, .int .u64 a0_3, .int .u64 a0_4, .int .u64 a0_5, .int .u64 a0_6, .int .i64 a0_7]] with | some r => some r | none => r33n g2 [.pt [.bool a0_1, .int .u64 a0_2, .int .u64 a0_3, .int .u64 a0_4, .int .u64 a0_5, .int .u64 a0_6, .int .i64 a0_7]]) = _
  simp only [r33, r33n, hx]
theorem r33n_eq {g : sip_Hasher → Option (Int × sip_Hasher)} {g2 : Option Int} {x : Int} (hx : g2  = some x) : (s33 g g2).run [.v (.pointer none)] = some ⟨.int .u64 x, [], []⟩ := by
  show (match r33 g [.v (.pointer none)] with | some r => some r | none => r33n g2 [.v (.pointer none)]) = _
  simp only [r33, r33n, hx]
abbrev sums33 (sip_state_mix : Arr4_Int → Int → Option Arr4_Int) (sip_state_take : Arr4_Int → Int → Option Arr4_Int) : List (Nat × Summ) := [(65, s65 sip_state_mix), (64, s64 sip_state_take)]
theorem leads33 (sip_state_mix : Arr4_Int → Int → Option Arr4_Int) (sip_state_take : Arr4_Int → Int → Option Arr4_Int) (hS : SumsOK Try.prog (aget (sums33 sip_state_mix sip_state_take))) (ha0 : sip_Hasher) (res : Int × sip_Hasher) (h : sip_Hasher_SumF sip_state_mix sip_state_take ha0 = some res) :
    Leads Try.prog 33 1 ⟨⟨33, 45, [(0, .pointer (some ⟨0, 0, none⟩))], [.code k33_17], [], false, none⟩, [], [(0, .cells [.bool ha0.made, .int .u64 ha0.s.e0, .int .u64 ha0.s.e1, .int .u64 ha0.s.e2, .int .u64 ha0.s.e3, .int .u64 ha0.last, .int .i64 ha0.count])], 1⟩ (fun v H _ => post33 res v H) := by
  unfold sip_Hasher_SumF at h
  refine ev_ok tab_ok hS true 3000 ?_
  conv => whnf
  refine br.h h ?_ ?_ ?_
  · rfl
  · clear h; intro hb h; conv => whnf
    all_goals (cases h)
    all_goals exact ⟨rfl, rfl⟩
  clear h; intro hb h; conv => whnf
  let t : Int := iorI .u64 ha0.last (wI .u64 ((wI .u64 ha0.count) * 2 ^ 56))
  obtain ⟨t1, hy, h2⟩ := obind.elim h; clear h; have h := h2; clear h2
  refine sumK.introF [1] (sumRun_of (aqs := [.pt [.int .u64 ha0.s.e0, .int .u64 ha0.s.e1, .int .u64 ha0.s.e2, .int .u64 ha0.s.e3], .v (.int .u64 t)]) (ra_cons rfl (ra_cons rfl ra_nil)) (r64_eq hy) rfl rfl rfl rfl) ?_
  conv => whnf
  obtain ⟨m, hy, h2⟩ := obind.elim h; clear h; have h := h2; clear h2
  refine sumK.introF [1] (sumRun_of (aqs := [.pt [.int .u64 t1.e0, .int .u64 t1.e1, .int .u64 (ixorI .u64 t1.e2 255), .int .u64 t1.e3], .v (.int .i64 4)]) (ra_cons rfl (ra_cons rfl ra_nil)) (r65_eq hy) rfl rfl rfl rfl) ?_
  conv => whnf
  let t2 : Int := ixorI .u64 (ixorI .u64 (ixorI .u64 m.e0 m.e1) m.e2) m.e3
  all_goals (cases h)
  all_goals exact ⟨rfl, rfl⟩
theorem ok33 (sip_state_mix : Arr4_Int → Int → Option Arr4_Int) (sip_state_take : Arr4_Int → Int → Option Arr4_Int) (hS : SumsOK Try.prog (aget (sums33 sip_state_mix sip_state_take))) (hS2 : SumsOK Try.prog (aget (sums33n))) : SumOK Try.prog 33 (s33 (sip_Hasher_SumF sip_state_mix sip_state_take) (sip_Hasher_Sum_nilF)) := by
  refine SumOK.of_leads tab_ok (fun ar r ha hr => ?_) ⟨Try.f33, rfl, by decide, rfl⟩
  simp only [s33] at ha hr
  split at hr
  · rename_i r0 hr0; cases hr; replace hr := hr0; clear hr0
    unfold r33 at hr
    split at hr <;> try (cases hr; done)
    split at hr <;> cases hr
    rename_i x h
    refine ⟨_, rfl, (leads33 sip_state_mix sip_state_take hS _ x h).mono fun v H t hp => ?_⟩
    obtain ⟨rfl, h0⟩ := hp
    exact Res.val rfl ⟨h0, rfl, trivial⟩
  · skip
    unfold r33n at hr
    split at hr <;> try (cases hr; done)
    split at hr <;> cases hr
    rename_i x h
    refine ⟨_, rfl, (leads33n hS2 x h).mono fun v H t hp => ?_⟩
    cases hp
    exact Res.val rfl trivial
def sip_Hasher_Sum : sip_Hasher → Option (Int × sip_Hasher) := sip_Hasher_SumF sip_state_mix sip_state_take
def sip_Hasher_Sum_nil : Option Int := sip_Hasher_Sum_nilF
theorem lift33 : SumOK Try.prog 33 (s33 sip_Hasher_Sum sip_Hasher_Sum_nil) := ok33 sip_state_mix sip_state_take (SumsOK.of_tab ⟨lift65, lift64, trivial⟩) (SumsOK.of_tab trivial)
end Go.Vm.Code

/- Chapter 12 in plain words: rounds, mixing, a hasher. -/
namespace Go.Vm.Code
open Go Go.Vm

/-- a number turned -/
def trn (x k : Int) : Int := (R12_turn x k).getD 0
theorem turn_eq {x k : Int} (h0 : 0 ≤ k) (h1 : k ≤ 64) : R12_turn x k = some (trn x k) := by
  unfold trn R12_turn R12_turnF
  rw [oreq_p h0, wI64 (n := 64 - k) (by omega) (by omega), oreq_p (by omega)]; rfl
theorem rot_turn {x k : Int} (h : k = 13 ∨ k = 16 ∨ k = 17 ∨ k = 21 ∨ k = 32) : math_bits_RotateLeft64 x k = R12_turn x k := by
  have e1 : andI .u64 (wI .u64 k) 63 = k := by rcases h with rfl | rfl | rfl | rfl | rfl <;> decide +kernel
  have e2 : wI .u64 (64 - k) = 64 - k := wU64 (by omega) (by omega)
  have e3 : wI .i64 (64 - k) = 64 - k := wI64 (by omega) (by omega)
  unfold math_bits_RotateLeft64 math_bits_RotateLeft64F R12_turn R12_turnF
  rw [e1, e2, e3]
theorem rot_eq {x k : Int} (h : k = 13 ∨ k = 16 ∨ k = 17 ∨ k = 21 ∨ k = 32) : math_bits_RotateLeft64 x k = some (trn x k) := by
  rw [rot_turn h]; exact turn_eq (by omega) (by omega)
/-- a round -/
def rnd (s : Arr4_Int) : Arr4_Int :=
  let a1 := wI .u64 (s.e0 + s.e1)
  let b1 := ixorI .u64 (trn s.e1 13) a1
  let c1 := wI .u64 (s.e2 + s.e3)
  let d1 := ixorI .u64 (trn s.e3 16) c1
  let t := wI .u64 (trn a1 32 + d1)
  let t1 := wI .u64 (c1 + b1)
  ⟨t, ixorI .u64 (trn b1 17) t1, trn t1 32, ixorI .u64 (trn d1 21) t⟩
theorem round_eq (s : Arr4_Int) : sip_state_round s = some (rnd s) := by
  unfold sip_state_round sip_state_roundF
  simp only [rot_eq (k := 13) (by omega), rot_eq (k := 16) (by omega), rot_eq (k := 17) (by omega), rot_eq (k := 21) (by omega), rot_eq (k := 32) (by omega), Option.bind_some]
  rfl
theorem Round_eq (a b c d : Int) : R12_Round a b c d = some ((rnd ⟨a, b, c, d⟩).e0, (rnd ⟨a, b, c, d⟩).e1, (rnd ⟨a, b, c, d⟩).e2, (rnd ⟨a, b, c, d⟩).e3) := by
  unfold R12_Round R12_RoundF
  simp only [turn_eq (k := 13) (by omega) (by omega), turn_eq (k := 16) (by omega) (by omega), turn_eq (k := 17) (by omega) (by omega), turn_eq (k := 21) (by omega) (by omega), turn_eq (k := 32) (by omega) (by omega), Option.bind_some]
  rfl
def rnds : Nat → Arr4_Int → Arr4_Int
  | 0, q => q
  | n + 1, q => rnds n (rnd q)
/-- how many rounds -/
def cnt (n : Int) : Nat := (if (if 64 < n then 64 else n) > 0 then if 64 < n then 64 else n else 0 : Int).toNat
theorem mix_eq (s : Arr4_Int) (n : Int) : sip_state_mix s n = some (rnds (cnt n) s) := by
  unfold sip_state_mix sip_state_mixF cnt
  generalize ht : (if (if 64 < n then 64 else n) > 0 then if 64 < n then 64 else n else 0 : Int) = t
  have hb : 0 ≤ t ∧ t ≤ 64 := by rw [← ht]; split <;> split <;> omega
  have key := iter_eq (step := fun (st : Int × Int × Int × Int × Int) => sip_state_mix_s1 sip_state_round t st.1 st.2.1 st.2.2.1 st.2.2.2.1 st.2.2.2.2) (fun st => rnds (t - st.1).toNat ⟨st.2.1, st.2.2.1, st.2.2.2.1, st.2.2.2.2⟩) (fun st => 0 ≤ st.1 ∧ st.1 ≤ t) (fun st => (t - st.1).toNat) ?_ FUEL (0, s.e0, s.e1, s.e2, s.e3) ⟨by simp, hb.1⟩ (by rw [FUEL_eq]; simp only; omega)
  · simp only [] at key ⊢
    rw [key]; simp
  rintro ⟨i, a, b, c, d⟩ ⟨g1, g2⟩
  simp only at g1 g2 ⊢
  unfold sip_state_mix_s1
  by_cases hi : i < t
  · refine .inr ⟨(i + 1, (rnd ⟨a, b, c, d⟩).e0, (rnd ⟨a, b, c, d⟩).e1, (rnd ⟨a, b, c, d⟩).e2, (rnd ⟨a, b, c, d⟩).e3), ?_, ⟨by simp only; omega, by simp only; omega⟩, by simp only; omega, ?_⟩
    · rw [cond_p hi, round_eq, Option.bind_some, wI64 (by omega) (by omega)]
    · simp only []
      have e : (t - i).toNat = (t - (i + 1)).toNat + 1 := by omega
      rw [e]; rfl
  · refine .inl ?_
    rw [cond_n hi]
    have e : (t - i).toNat = 0 := by omega
    simp only [e, rnds]
theorem Mix_eq (a b c d n : Int) : R12_Mix a b c d n = some (rnds (cnt n) ⟨a, b, c, d⟩) := by
  unfold R12_Mix R12_MixF
  have hc : ∀ i : Int, 0 ≤ i → i ≤ cnt n → (i < cnt n ↔ i < n ∧ i < 64) := by
    intro i h0 h1
    revert h1
    unfold cnt
    split <;> split <;> omega
  have hb : (cnt n : Int) ≤ 64 := by unfold cnt; split <;> split <;> omega
  have key := iter_eq (step := fun (st : Int × Int × Int × Int × Int) => R12_Mix_s1 R12_Round n st.1 st.2.1 st.2.2.1 st.2.2.2.1 st.2.2.2.2) (fun st => rnds (cnt n - st.2.2.2.2).toNat ⟨st.1, st.2.1, st.2.2.1, st.2.2.2.1⟩) (fun st => 0 ≤ st.2.2.2.2 ∧ st.2.2.2.2 ≤ cnt n) (fun st => (cnt n - st.2.2.2.2).toNat) ?_ FUEL (a, b, c, d, 0) ⟨by simp, by simp⟩ (by rw [FUEL_eq]; simp only; omega)
  · rw [key]; simp
  rintro ⟨a, b, c, d, i⟩ ⟨g1, g2⟩
  simp only at g1 g2 ⊢
  unfold R12_Mix_s1
  have hh := hc i g1 g2
  by_cases hi : i < cnt n
  · obtain ⟨h1, h2⟩ := hh.1 hi
    refine .inr ⟨((rnd ⟨a, b, c, d⟩).e0, (rnd ⟨a, b, c, d⟩).e1, (rnd ⟨a, b, c, d⟩).e2, (rnd ⟨a, b, c, d⟩).e3, i + 1), ?_, ⟨by simp only; omega, by simp only; omega⟩, by simp only; omega, ?_⟩
    · rw [cond_p h1, cond_p h2, Round_eq, Option.bind_some, wI64 (by omega) (by omega)]
    · simp only []
      have e : ((cnt n : Int) - i).toNat = ((cnt n : Int) - (i + 1)).toNat + 1 := by omega
      rw [e]; rfl
  · refine .inl ?_
    have e : ((cnt n : Int) - i).toNat = 0 := by omega
    simp only [e, rnds]
    by_cases h1 : i < n
    · rw [cond_p h1, cond_n (by omega)]
    · rw [cond_n h1]
/-- a word mixed in -/
def tak (s : Arr4_Int) (m : Int) : Arr4_Int :=
  let q := rnds 2 ⟨s.e0, s.e1, s.e2, ixorI .u64 s.e3 m⟩
  ⟨ixorI .u64 q.e0 m, q.e1, q.e2, q.e3⟩
theorem take_eq (s : Arr4_Int) (m : Int) : sip_state_take s m = some (tak s m) := by
  unfold sip_state_take sip_state_takeF
  rw [mix_eq, show cnt 2 = 2 from rfl, Option.bind_some]
  simp only [tak]
/-- a byte more -/
def wrT (T : Arr4_Int → Int → Arr4_Int) (h : sip_Hasher) (b : UInt8) : sip_Hasher :=
  let m := iorI .u64 h.last (wI .u64 ((b.toNat : Int) * 2 ^ (8 * (h.count.toNat % 8))))
  if (h.count.toNat + 1) % 8 = 0 then ⟨h.made, T h.s m, 0, h.count + 1⟩ else ⟨h.made, h.s, m, h.count + 1⟩
theorem WriteF_eq (T : Arr4_Int → Int → Arr4_Int) {h : sip_Hasher} {s : List UInt8} (hm : h.made = true) (h0 : 0 ≤ h.count) (h1 : h.count + s.length < 2 ^ 62) : sip_Hasher_WriteF (fun q m => some (T q m)) h s = some (s.foldl (wrT T) h) := by
  unfold sip_Hasher_WriteF
  rw [hm, Bool.not_true, cond_false]
  have key := iter_eq (step := fun (st : Int × Int × Int × Int × Int × Int × Int) => sip_Hasher_Write_s1 (fun q m => some (T q m)) h s st.1 st.2.1 st.2.2.1 st.2.2.2.1 st.2.2.2.2.1 st.2.2.2.2.2.1 st.2.2.2.2.2.2)
    (fun st => (s.drop st.1.toNat).foldl (wrT T) ⟨true, ⟨st.2.1, st.2.2.1, st.2.2.2.1, st.2.2.2.2.1⟩, st.2.2.2.2.2.1, st.2.2.2.2.2.2⟩) (fun st => 0 ≤ st.1 ∧ st.1 ≤ s.length ∧ st.2.2.2.2.2.2 = h.count + st.1) (fun st => (s.length - st.1).toNat) ?_ FUEL (0, h.s.e0, h.s.e1, h.s.e2, h.s.e3, h.last, h.count) ⟨by simp, by simp, by simp⟩ (by rw [FUEL_eq]; simp only; omega)
  · rw [key]
    simp only [Int.toNat_zero, List.drop_zero]
    rw [← hm]
  rintro ⟨p, a, b, c, d, l, n⟩ ⟨g1, g2, g3⟩
  simp only at g1 g2 g3 ⊢
  obtain ⟨i, rfl⟩ := Int.eq_ofNat_of_zero_le g1
  obtain ⟨k, hk⟩ := Int.eq_ofNat_of_zero_le (show 0 ≤ n by omega)
  subst hk
  simp only [Int.toNat_natCast]
  unfold sip_Hasher_Write_s1
  by_cases hi : i < s.length
  · have hb := s[i].toNat_lt
    have e1 : (bI s)[i]? = some (s[i].toNat : Int) := by simp [bI, hi]
    have e2 : ((k : Int).tmod 8) = ((k % 8 : Nat) : Int) := by rw [Int.tmod_eq_emod_of_nonneg (by omega)]; rfl
    have e3 : min (8 * ((k % 8 : Nat) : Int)).toNat 64 = 8 * (k % 8) := by omega
    have e4 : (((k : Int) + 1).tmod 8 == 0) = decide ((k + 1) % 8 = 0) := by
      rw [Int.tmod_eq_emod_of_nonneg (by omega), Bool.eq_iff_iff, beq_iff_eq, decide_eq_true_eq]; omega
    refine .inr ⟨(((i + 1 : Nat) : Int), (wrT T ⟨true, ⟨a, b, c, d⟩, l, k⟩ s[i]).s.e0, (wrT T ⟨true, ⟨a, b, c, d⟩, l, k⟩ s[i]).s.e1, (wrT T ⟨true, ⟨a, b, c, d⟩, l, k⟩ s[i]).s.e2, (wrT T ⟨true, ⟨a, b, c, d⟩, l, k⟩ s[i]).s.e3, (wrT T ⟨true, ⟨a, b, c, d⟩, l, k⟩ s[i]).last, (k : Int) + 1), ?_, ⟨by simp only; omega, by simp only; omega, by simp only; omega⟩, by simp only; omega, ?_⟩
    · simp (disch := omega) only [cond_p, oreq_p, Int.toNat_natCast, e1, Option.bind_some, e2, wI64, e3, e4, wU64 (n := (s[i].toNat : Int)), cond_dec]
      unfold wrT
      simp only [Int.toNat_natCast]
      split <;> rfl
    · simp only [Int.toNat_natCast]
      rw [List.drop_eq_getElem_cons hi, List.foldl_cons]
      congr 1
      unfold wrT
      simp only [Int.toNat_natCast]
      split <;> rfl
  · refine .inl ?_
    rw [cond_n (by omega), List.drop_eq_nil_of_le (by omega), hm]; rfl
def wrB : sip_Hasher → UInt8 → sip_Hasher := wrT tak
theorem Write_eq {h : sip_Hasher} {s : List UInt8} (hm : h.made = true) (h0 : 0 ≤ h.count) (h1 : h.count + s.length < 2 ^ 62) : sip_Hasher_Write h s = some (s.foldl wrB h) := by
  unfold sip_Hasher_Write
  rw [show sip_state_take = fun q m => some (tak q m) from funext fun q => funext fun m => take_eq q m]
  exact WriteF_eq tak hm h0 h1
theorem wrT_made (T : Arr4_Int → Int → Arr4_Int) (h : sip_Hasher) (b : UInt8) : (wrT T h b).made = h.made := by unfold wrT; simp only; split <;> rfl
theorem wrT_count (T : Arr4_Int → Int → Arr4_Int) (h : sip_Hasher) (b : UInt8) : (wrT T h b).count = h.count + 1 := by unfold wrT; simp only; split <;> rfl
theorem wrB_made (h : sip_Hasher) (b : UInt8) : (wrB h b).made = h.made := wrT_made tak h b
theorem wrB_count (h : sip_Hasher) (b : UInt8) : (wrB h b).count = h.count + 1 := wrT_count tak h b
theorem wrL : ∀ (s : List UInt8) (h : sip_Hasher), (s.foldl wrB h).made = h.made ∧ (s.foldl wrB h).count = h.count + s.length
  | [], h => ⟨rfl, by simp⟩
  | b :: s, h => by
    obtain ⟨a1, a2⟩ := wrL s (wrB h b)
    rw [List.foldl_cons, a1, a2, wrB_made, wrB_count, List.length_cons]
    exact ⟨rfl, by omega⟩
/-- the hash of what came -/
def sumV (h : sip_Hasher) : Int :=
  let t := tak h.s (iorI .u64 h.last (wI .u64 ((wI .u64 h.count) * 2 ^ 56)))
  let m := rnds 4 ⟨t.e0, t.e1, ixorI .u64 t.e2 255, t.e3⟩
  ixorI .u64 (ixorI .u64 (ixorI .u64 m.e0 m.e1) m.e2) m.e3
theorem Sum_eq {h : sip_Hasher} (hm : h.made = true) : sip_Hasher_Sum h = some (sumV h, h) := by
  unfold sip_Hasher_Sum sip_Hasher_SumF
  rw [hm, Bool.not_true, cond_false]
  simp only [take_eq, mix_eq, Option.bind_some, show cnt 4 = 4 from rfl, sumV]
def newV (k : api_Key) : sip_Hasher := ⟨true, ⟨ixorI .u64 8317987319222330741 k.A, ixorI .u64 7237128888997146477 k.B, ixorI .u64 7816392313619706465 k.A, ixorI .u64 8387220255154660723 k.B⟩, 0, 0⟩
theorem New_eq (k : api_Key) : sip_New k = some (newV k) := rfl
end Go.Vm.Code

namespace Go.Vm.Code
open Go Go.Vm Go.Proofs
set_option maxRecDepth 100000
set_option maxHeartbeats 4000000
set_option linter.unusedVariables false

/-! cloakroom/cloakroomref12.word -/
def R12_word_s1 (s : List UInt8) (n : Int) (i : Int) : Option (Sum (Int × Int) Int) :=
  cond (decide (i ≥ 0))
    (
    oreq (decide (0 ≤ i)) <|
    (s[i.toNat]?).bind fun (b : UInt8) =>
    let t := wI .u64 ((wI .u64 (n * 2 ^ 8)) + (wI .u64 (b.toNat : Int)))
    some (.inl (t, wI .i64 (i - 1))))
    (
    some (.inr (n)))
def R12_wordF (s : List UInt8) : Option Int :=
  iter (fun st => R12_word_s1 s st.1 st.2) FUEL (0, wI .i64 ((s.length : Int) - 1))
def post66 (x : Int) (v : Value) (H : Hp) : Prop := v = .int .u64 x
def r66 (g : (List UInt8) → Option Int) : List SArg → Option SRes
  | [.v (.string ⟨⟨a0_1⟩⟩)] => match g a0_1 with | some x => some ⟨.int .u64 x, [], []⟩ | none => none
  | _ => none
def s66 (g : (List UInt8) → Option Int) : Summ := ⟨[.v], r66 g⟩
theorem r66_eq {g : (List UInt8) → Option Int} {a0_1 : List UInt8} {x : Int} (hx : g a0_1 = some x) : (s66 g).run [.v (.string ⟨⟨a0_1⟩⟩)] = some ⟨.int .u64 x, [], []⟩ := by
  show r66 g [.v (.string ⟨⟨a0_1⟩⟩)] = _
  simp only [r66, hx]
abbrev sums66 : List (Nat × Summ) := []
def head66_1 (s : List UInt8) (n : Int) (i : Int) : VM :=
  ⟨⟨66, 20, [(0, .string ⟨⟨s⟩⟩), (3, .int .u64 n), (4, .int .i64 i)], [.code k66_10, .inLoop k66_10, .inBlock 0, .code k66_15], [], false, none⟩, [], [], 0⟩
theorem loop66_1 (hS : SumsOK Try.prog (aget (sums66))) (s : List UInt8) (res : Int) : ∀ fuel (st : Int × Int) (o : Int), iter (fun st => R12_word_s1 s st.1 st.2) fuel st = some o → (o = res) →
    Leads Try.prog 66 0 (head66_1 s st.1 st.2) (fun v H _ => post66 res v H) := by
  intro fuel st o h hc
  refine iter_leads (head := fun st => head66_1 s st.1 st.2) (C := fun o => (o = res)) ?_ fuel st o h hc
  clear h hc o st fuel
  intro st o h hc
  obtain ⟨n, i⟩ := st
  replace h : R12_word_s1 s n i = some o := h
  show Leads Try.prog 66 0 (head66_1 s n i) (fun v H _ => post66 res v H)
  unfold R12_word_s1 at h
  refine ev_ok tab_ok hS true 3000 ?_
  conv => whnf
  refine br.h2 h ?_ ?_ ?_
  · rfl
  · clear h; intro hb h; conv => whnf
    all_goals (cases h; cases hc)
    all_goals exact rfl
  clear h; intro hb h; conv => whnf
  replace h := oreq.elim h; have hb := h.1; replace h := h.2
  first | (refine req.intro hb ?_; conv => whnf) | skip
  obtain ⟨b, hy, h2⟩ := obind.elim h; clear h; have h := h2; clear h2
  refine rdS.intro hy ?_
  conv => whnf
  let t : Int := wI .u64 ((wI .u64 (n * 2 ^ 8)) + (wI .u64 (b.toNat : Int)))
  cases h; simp only [Sum.elim_inl, Sum.elim_inr, head66_1] at hc
  refine Leads.re hc [] rfl ?_ ?_ <;> (repeat' first | exact trivial | refine ⟨⟨_, rfl, rfl⟩, ?_⟩ | refine ⟨⟨_, _, rfl, rfl, .rowF (vI_flat _ _) id⟩, ?_⟩ | refine ⟨⟨_, _, rfl, rfl, .rowF (vS_flat _) id⟩, ?_⟩ | refine ⟨⟨_, _, rfl, rfl, .rowF (vB_flat _) id⟩, ?_⟩ | refine ⟨⟨_, _, rfl, rfl, .cells rfl⟩, ?_⟩ | refine ⟨⟨_, _, rfl, rfl, .row rfl id⟩, ?_⟩ | refine ⟨⟨_, _, rfl, rfl, .cr rfl⟩, ?_⟩ | refine ⟨⟨_, _, rfl, rfl, .rc rfl⟩, ?_⟩ | refine ⟨⟨_, _, rfl, rfl, .marks⟩, ?_⟩ | refine ⟨⟨_, _, rfl, rfl, .siter _ _⟩, ?_⟩ | refine ⟨⟨_, _, rfl, rfl, .loop rfl rfl rfl rfl (by repeat' first | exact trivial | refine ⟨rfl, ?_⟩) rfl rfl rfl rfl⟩, ?_⟩)
theorem leads66 (hS : SumsOK Try.prog (aget (sums66))) (s : List UInt8) (res : Int) (h : R12_wordF s = some res) :
    Leads Try.prog 66 0 ⟨⟨66, 20, [(0, .string ⟨⟨s⟩⟩)], [.code k66_18], [], false, none⟩, [], [], 0⟩ (fun v H _ => post66 res v H) := by
  unfold R12_wordF at h
  refine ev_ok tab_ok hS true 3000 ?_
  conv => whnf
  have hl := loop66_1 hS _ res _ _ _ h rfl; simp only [head66_1] at hl
  refine Leads.re hl [] rfl ?_ ?_ <;> (repeat' first | exact trivial | refine ⟨⟨_, rfl, rfl⟩, ?_⟩ | refine ⟨⟨_, _, rfl, rfl, .rowF (vI_flat _ _) id⟩, ?_⟩ | refine ⟨⟨_, _, rfl, rfl, .rowF (vS_flat _) id⟩, ?_⟩ | refine ⟨⟨_, _, rfl, rfl, .rowF (vB_flat _) id⟩, ?_⟩ | refine ⟨⟨_, _, rfl, rfl, .cells rfl⟩, ?_⟩ | refine ⟨⟨_, _, rfl, rfl, .row rfl id⟩, ?_⟩ | refine ⟨⟨_, _, rfl, rfl, .cr rfl⟩, ?_⟩ | refine ⟨⟨_, _, rfl, rfl, .rc rfl⟩, ?_⟩ | refine ⟨⟨_, _, rfl, rfl, .marks⟩, ?_⟩ | refine ⟨⟨_, _, rfl, rfl, .siter _ _⟩, ?_⟩ | refine ⟨⟨_, _, rfl, rfl, .loop rfl rfl rfl rfl (by repeat' first | exact trivial | refine ⟨rfl, ?_⟩) rfl rfl rfl rfl⟩, ?_⟩)
theorem ok66 (hS : SumsOK Try.prog (aget (sums66))) : SumOK Try.prog 66 (s66 (R12_wordF)) := by
  refine SumOK.of_leads tab_ok (fun ar r ha hr => ?_) ⟨Try.f66, rfl, by decide, rfl⟩
  simp only [s66] at ha hr
  unfold r66 at hr
  split at hr <;> try (cases hr; done)
  split at hr <;> cases hr
  rename_i x h
  refine ⟨_, rfl, (leads66 hS _ x h).mono fun v H t hp => ?_⟩
  cases hp
  exact Res.val rfl trivial
def R12_word : (List UInt8) → Option Int := R12_wordF
theorem lift66 : SumOK Try.prog 66 (s66 R12_word) := ok66 (SumsOK.of_tab trivial)
end Go.Vm.Code

namespace Go.Vm.Code
open Go Go.Vm Go.Proofs
set_option maxRecDepth 100000
set_option maxHeartbeats 4000000
set_option linter.unusedVariables false

/-! cloakroom/cloakroomref12.Hash -/
def R12_Hash_s1 (R12_Round : Int → Int → Int → Int → Option (Int × Int × Int × Int)) (s : List UInt8) (t : Int) (i : Int) (a1 : Int) (b1 : Int) (c1 : Int) (d1 : Int) (m : Int) (n : Int) : Option (Sum (Int × Int × Int × Int × Int × Int) (Sum (Int × Int × Int × Int × Int) Int)) :=
  cond (decide (n < 2))
    (
    (R12_Round a1 b1 c1 d1).bind fun xr =>
    some (.inl (xr.1, xr.2.1, xr.2.2.1, xr.2.2.2, m, wI .i64 (n + 1))))
    (
    some (.inr (.inl (ixorI .u64 a1 m, b1, c1, d1, wI .i64 (i + 8)))))
def R12_Hash_s2 (R12_Mix : Int → Int → Int → Int → Int → Option Arr4_Int) (R12_Round : Int → Int → Int → Int → Option (Int × Int × Int × Int)) (R12_word : (List UInt8) → Option Int) (s : List UInt8) (t : Int) (a : Int) (b : Int) (c : Int) (d : Int) (i : Int) : Option (Sum (Int × Int × Int × Int × Int) Int) :=
  cond (decide (i ≤ t))
    (
    let t1 := if (s.length : Int) < (wI .i64 (i + 8)) then (s.length : Int) else wI .i64 (i + 8)
    oreq (decide ((0 : Int) ≤ t1 ∧ t1 ≤ (s.length : Int) ∧ (0 : Int) ≤ i ∧ i ≤ (t1.toNat : Int))) <|
    let t2 := (s.drop i.toNat).take (t1.toNat - i.toNat)
    (R12_word t2).bind fun w =>
    cond (i == t)
      (
      oreq (decide ((0 : Int) ≤ i ∧ i ≤ (s.length : Int))) <|
      let t3 := (s.drop i.toNat).take (s.length - i.toNat)
      (R12_word t3).bind fun w1 =>
      let t4 := wI .u64 ((wI .u64 ((s.length : Int).tmod 256)) * 2 ^ 56)
      iter (fun st => R12_Hash_s1 R12_Round s t i st.1 st.2.1 st.2.2.1 st.2.2.2.1 st.2.2.2.2.1 st.2.2.2.2.2) FUEL (a, b, c, ixorI .u64 d (wI .u64 (w1 + t4)), wI .u64 (w1 + t4), 0))
      (
      iter (fun st => R12_Hash_s1 R12_Round s t i st.1 st.2.1 st.2.2.1 st.2.2.2.1 st.2.2.2.2.1 st.2.2.2.2.2) FUEL (a, b, c, ixorI .u64 d w, w, 0)))
    (
    (R12_Mix a b (ixorI .u64 c 255) d 4).bind fun m1 =>
    let t5 := ixorI .u64 (ixorI .u64 m1.e0 m1.e1) m1.e2
    some (.inr (ixorI .u64 t5 m1.e3)))
def R12_HashF (R12_Mix : Int → Int → Int → Int → Int → Option Arr4_Int) (R12_Round : Int → Int → Int → Int → Option (Int × Int × Int × Int)) (R12_word : (List UInt8) → Option Int) (k : api_Key) (s : List UInt8) : Option Int :=
  let t := wI .i64 ((wI .i64 ((s.length : Int).tdiv 8)) * 8)
  iter (fun st => R12_Hash_s2 R12_Mix R12_Round R12_word s t st.1 st.2.1 st.2.2.1 st.2.2.2.1 st.2.2.2.2) FUEL (ixorI .u64 8317987319222330741 k.A, ixorI .u64 7237128888997146477 k.B, ixorI .u64 7816392313619706465 k.A, ixorI .u64 8387220255154660723 k.B, 0)
def post35 (x : Int) (v : Value) (H : Hp) : Prop := v = .int .u64 x
def r35 (g : api_Key → (List UInt8) → Option Int) : List SArg → Option SRes
  | [.v (.agg ⟨[.int .u64 a0_1, .int .u64 a0_2]⟩), .v (.string ⟨⟨a1_1⟩⟩)] => match g (api_Key.mk a0_1 a0_2) a1_1 with | some x => some ⟨.int .u64 x, [], []⟩ | none => none
  | _ => none
def s35 (g : api_Key → (List UInt8) → Option Int) : Summ := ⟨[.v, .v], r35 g⟩
theorem r35_eq {g : api_Key → (List UInt8) → Option Int} {a0_1 : Int} {a0_2 : Int} {a1_1 : List UInt8} {x : Int} (hx : g (api_Key.mk a0_1 a0_2) a1_1 = some x) : (s35 g).run [.v (.agg ⟨[.int .u64 a0_1, .int .u64 a0_2]⟩), .v (.string ⟨⟨a1_1⟩⟩)] = some ⟨.int .u64 x, [], []⟩ := by
  show r35 g [.v (.agg ⟨[.int .u64 a0_1, .int .u64 a0_2]⟩), .v (.string ⟨⟨a1_1⟩⟩)] = _
  simp only [r35, hx]
abbrev sums35 (R12_Mix : Int → Int → Int → Int → Int → Option Arr4_Int) (R12_Round : Int → Int → Int → Int → Option (Int × Int × Int × Int)) (R12_word : (List UInt8) → Option Int) : List (Nat × Summ) := [(37, s37 R12_Mix), (67, s67 R12_Round), (66, s66 R12_word)]
def head35_1 (s : List UInt8) (t : Int) (i : Int) (a1 : Int) (b1 : Int) (c1 : Int) (d1 : Int) (m : Int) (n : Int) : VM :=
  ⟨⟨35, 95, [(1, .string ⟨⟨s⟩⟩), (5, .int .u64 a1), (6, .int .u64 b1), (7, .int .u64 c1), (8, .int .u64 d1), (9, .int .i64 t), (10, .int .i64 i), (11, .int .u64 m), (12, .int .i64 n)], [.code k35_22, .inLoop k35_22, .inBlock 2, .code k35_26, .inBlock 1, .code k35_32, .inLoop k35_34, .inBlock 0, .code k35_43], [], false, none⟩, [], [], 17⟩
def head35_2 (s : List UInt8) (t : Int) (a : Int) (b : Int) (c : Int) (d : Int) (i : Int) : VM :=
  ⟨⟨35, 95, [(1, .string ⟨⟨s⟩⟩), (5, .int .u64 a), (6, .int .u64 b), (7, .int .u64 c), (8, .int .u64 d), (9, .int .i64 t), (10, .int .i64 i)], [.code k35_34, .inLoop k35_34, .inBlock 0, .code k35_43], [], false, none⟩, [], [], 17⟩
theorem loop35_1 (R12_Mix : Int → Int → Int → Int → Int → Option Arr4_Int) (R12_Round : Int → Int → Int → Int → Option (Int × Int × Int × Int)) (R12_word : (List UInt8) → Option Int) (hS : SumsOK Try.prog (aget (sums35 R12_Mix R12_Round R12_word))) (s : List UInt8) (t : Int) (i : Int) (res : Int) : ∀ fuel (st : Int × Int × Int × Int × Int × Int) (o : Sum (Int × Int × Int × Int × Int) Int), iter (fun st => R12_Hash_s1 R12_Round s t i st.1 st.2.1 st.2.2.1 st.2.2.2.1 st.2.2.2.2.1 st.2.2.2.2.2) fuel st = some o → (Sum.elim (fun s0 => Leads Try.prog 35 0 (head35_2 s t s0.1 s0.2.1 s0.2.2.1 s0.2.2.2.1 s0.2.2.2.2) (fun v H _ => post35 res v H)) (fun r0 => r0 = res) o) →
    Leads Try.prog 35 0 (head35_1 s t i st.1 st.2.1 st.2.2.1 st.2.2.2.1 st.2.2.2.2.1 st.2.2.2.2.2) (fun v H _ => post35 res v H) := by
  intro fuel st o h hc
  refine iter_leads (head := fun st => head35_1 s t i st.1 st.2.1 st.2.2.1 st.2.2.2.1 st.2.2.2.2.1 st.2.2.2.2.2) (C := fun o => (Sum.elim (fun s0 => Leads Try.prog 35 0 (head35_2 s t s0.1 s0.2.1 s0.2.2.1 s0.2.2.2.1 s0.2.2.2.2) (fun v H _ => post35 res v H)) (fun r0 => r0 = res) o)) ?_ fuel st o h hc
  clear h hc o st fuel
  intro st o h hc
  obtain ⟨a1, b1, c1, d1, m, n⟩ := st
  replace h : R12_Hash_s1 R12_Round s t i a1 b1 c1 d1 m n = some o := h
  show Leads Try.prog 35 0 (head35_1 s t i a1 b1 c1 d1 m n) (fun v H _ => post35 res v H)
  unfold R12_Hash_s1 at h
  refine ev_ok tab_ok hS true 3000 ?_
  conv => whnf
  refine br.h2 h ?_ ?_ ?_
  · rfl
  · clear h; intro hb h; conv => whnf
    cases h; simp only [Sum.elim_inl, Sum.elim_inr, head35_2] at hc
    refine Leads.re hc [] rfl ?_ ?_ <;> (repeat' first | exact trivial | refine ⟨⟨_, rfl, rfl⟩, ?_⟩ | refine ⟨⟨_, _, rfl, rfl, .rowF (vI_flat _ _) id⟩, ?_⟩ | refine ⟨⟨_, _, rfl, rfl, .rowF (vS_flat _) id⟩, ?_⟩ | refine ⟨⟨_, _, rfl, rfl, .rowF (vB_flat _) id⟩, ?_⟩ | refine ⟨⟨_, _, rfl, rfl, .cells rfl⟩, ?_⟩ | refine ⟨⟨_, _, rfl, rfl, .row rfl id⟩, ?_⟩ | refine ⟨⟨_, _, rfl, rfl, .cr rfl⟩, ?_⟩ | refine ⟨⟨_, _, rfl, rfl, .rc rfl⟩, ?_⟩ | refine ⟨⟨_, _, rfl, rfl, .marks⟩, ?_⟩ | refine ⟨⟨_, _, rfl, rfl, .siter _ _⟩, ?_⟩ | refine ⟨⟨_, _, rfl, rfl, .loop rfl rfl rfl rfl (by repeat' first | exact trivial | refine ⟨rfl, ?_⟩) rfl rfl rfl rfl⟩, ?_⟩)
  clear h; intro hb h; conv => whnf
  obtain ⟨xr, hy, h2⟩ := obind.elim h; clear h; have h := h2; clear h2
  refine sumK.introF [] (sumRun_of (aqs := [.v (.int .u64 a1), .v (.int .u64 b1), .v (.int .u64 c1), .v (.int .u64 d1)]) (ra_cons rfl (ra_cons rfl (ra_cons rfl (ra_cons rfl ra_nil)))) (r67_eq hy) rfl rfl rfl rfl) ?_
  conv => whnf
  cases h; simp only [Sum.elim_inl, Sum.elim_inr, head35_1] at hc
  refine Leads.re hc [] rfl ?_ ?_ <;> (repeat' first | exact trivial | refine ⟨⟨_, rfl, rfl⟩, ?_⟩ | refine ⟨⟨_, _, rfl, rfl, .rowF (vI_flat _ _) id⟩, ?_⟩ | refine ⟨⟨_, _, rfl, rfl, .rowF (vS_flat _) id⟩, ?_⟩ | refine ⟨⟨_, _, rfl, rfl, .rowF (vB_flat _) id⟩, ?_⟩ | refine ⟨⟨_, _, rfl, rfl, .cells rfl⟩, ?_⟩ | refine ⟨⟨_, _, rfl, rfl, .row rfl id⟩, ?_⟩ | refine ⟨⟨_, _, rfl, rfl, .cr rfl⟩, ?_⟩ | refine ⟨⟨_, _, rfl, rfl, .rc rfl⟩, ?_⟩ | refine ⟨⟨_, _, rfl, rfl, .marks⟩, ?_⟩ | refine ⟨⟨_, _, rfl, rfl, .siter _ _⟩, ?_⟩ | refine ⟨⟨_, _, rfl, rfl, .loop rfl rfl rfl rfl (by repeat' first | exact trivial | refine ⟨rfl, ?_⟩) rfl rfl rfl rfl⟩, ?_⟩)
theorem loop35_2 (R12_Mix : Int → Int → Int → Int → Int → Option Arr4_Int) (R12_Round : Int → Int → Int → Int → Option (Int × Int × Int × Int)) (R12_word : (List UInt8) → Option Int) (hS : SumsOK Try.prog (aget (sums35 R12_Mix R12_Round R12_word))) (s : List UInt8) (t : Int) (res : Int) : ∀ fuel (st : Int × Int × Int × Int × Int) (o : Int), iter (fun st => R12_Hash_s2 R12_Mix R12_Round R12_word s t st.1 st.2.1 st.2.2.1 st.2.2.2.1 st.2.2.2.2) fuel st = some o → (o = res) →
    Leads Try.prog 35 0 (head35_2 s t st.1 st.2.1 st.2.2.1 st.2.2.2.1 st.2.2.2.2) (fun v H _ => post35 res v H) := by
  intro fuel st o h hc
  refine iter_leads (head := fun st => head35_2 s t st.1 st.2.1 st.2.2.1 st.2.2.2.1 st.2.2.2.2) (C := fun o => (o = res)) ?_ fuel st o h hc
  clear h hc o st fuel
  intro st o h hc
  obtain ⟨a, b, c, d, i⟩ := st
  replace h : R12_Hash_s2 R12_Mix R12_Round R12_word s t a b c d i = some o := h
  show Leads Try.prog 35 0 (head35_2 s t a b c d i) (fun v H _ => post35 res v H)
  unfold R12_Hash_s2 at h
  refine ev_ok tab_ok hS true 3000 ?_
  conv => whnf
  refine br.h2 h ?_ ?_ ?_
  · rfl
  · clear h; intro hb h; conv => whnf
    obtain ⟨m1, hy, h2⟩ := obind.elim h; clear h; have h := h2; clear h2
    refine sumK.introF [] (sumRun_of (aqs := [.v (.int .u64 a), .v (.int .u64 b), .v (.int .u64 (ixorI .u64 c 255)), .v (.int .u64 d), .v (.int .i64 4)]) (ra_cons rfl (ra_cons rfl (ra_cons rfl (ra_cons rfl (ra_cons rfl ra_nil))))) (r37_eq hy) rfl rfl rfl rfl) ?_
    conv => whnf
    let t5 : Int := ixorI .u64 (ixorI .u64 m1.e0 m1.e1) m1.e2
    all_goals (cases h; cases hc)
    all_goals exact rfl
  clear h; intro hb h; conv => whnf
  let t1 : Int := if (s.length : Int) < (wI .i64 (i + 8)) then (s.length : Int) else wI .i64 (i + 8)
  replace h := oreq.elim h; have hb := h.1; replace h := h.2
  first | (refine req.intro hb ?_; conv => whnf) | skip
  let t2 : List UInt8 := (s.drop i.toNat).take (t1.toNat - i.toNat)
  obtain ⟨w, hy, h2⟩ := obind.elim h; clear h; have h := h2; clear h2
  refine sumK.introF [] (sumRun_of (aqs := [.v (.string ⟨⟨t2⟩⟩)]) (ra_cons rfl ra_nil) (r66_eq hy) rfl rfl rfl rfl) ?_
  conv => whnf
  refine br.h2 h ?_ ?_ ?_
  · rfl
  · clear h; intro hb h; conv => whnf
    have hl := loop35_1 R12_Mix R12_Round R12_word hS _ _ _ res _ _ _ h hc; simp only [head35_1] at hl
    refine Leads.re hl [] rfl ?_ ?_ <;> (repeat' first | exact trivial | refine ⟨⟨_, rfl, rfl⟩, ?_⟩ | refine ⟨⟨_, _, rfl, rfl, .rowF (vI_flat _ _) id⟩, ?_⟩ | refine ⟨⟨_, _, rfl, rfl, .rowF (vS_flat _) id⟩, ?_⟩ | refine ⟨⟨_, _, rfl, rfl, .rowF (vB_flat _) id⟩, ?_⟩ | refine ⟨⟨_, _, rfl, rfl, .cells rfl⟩, ?_⟩ | refine ⟨⟨_, _, rfl, rfl, .row rfl id⟩, ?_⟩ | refine ⟨⟨_, _, rfl, rfl, .cr rfl⟩, ?_⟩ | refine ⟨⟨_, _, rfl, rfl, .rc rfl⟩, ?_⟩ | refine ⟨⟨_, _, rfl, rfl, .marks⟩, ?_⟩ | refine ⟨⟨_, _, rfl, rfl, .siter _ _⟩, ?_⟩ | refine ⟨⟨_, _, rfl, rfl, .loop rfl rfl rfl rfl (by repeat' first | exact trivial | refine ⟨rfl, ?_⟩) rfl rfl rfl rfl⟩, ?_⟩)
  clear h; intro hb h; conv => whnf
  replace h := oreq.elim h; have hb := h.1; replace h := h.2
  first | (refine req.intro hb ?_; conv => whnf) | skip
  let t3 : List UInt8 := (s.drop i.toNat).take (s.length - i.toNat)
  obtain ⟨w1, hy, h2⟩ := obind.elim h; clear h; have h := h2; clear h2
  refine sumK.introF [] (sumRun_of (aqs := [.v (.string ⟨⟨t3⟩⟩)]) (ra_cons rfl ra_nil) (r66_eq hy) rfl rfl rfl rfl) ?_
  conv => whnf
  let t4 : Int := wI .u64 ((wI .u64 ((s.length : Int).tmod 256)) * 2 ^ 56)
  have hl := loop35_1 R12_Mix R12_Round R12_word hS _ _ _ res _ _ _ h hc; simp only [head35_1] at hl
  refine Leads.re hl [] rfl ?_ ?_ <;> (repeat' first | exact trivial | refine ⟨⟨_, rfl, rfl⟩, ?_⟩ | refine ⟨⟨_, _, rfl, rfl, .rowF (vI_flat _ _) id⟩, ?_⟩ | refine ⟨⟨_, _, rfl, rfl, .rowF (vS_flat _) id⟩, ?_⟩ | refine ⟨⟨_, _, rfl, rfl, .rowF (vB_flat _) id⟩, ?_⟩ | refine ⟨⟨_, _, rfl, rfl, .cells rfl⟩, ?_⟩ | refine ⟨⟨_, _, rfl, rfl, .row rfl id⟩, ?_⟩ | refine ⟨⟨_, _, rfl, rfl, .cr rfl⟩, ?_⟩ | refine ⟨⟨_, _, rfl, rfl, .rc rfl⟩, ?_⟩ | refine ⟨⟨_, _, rfl, rfl, .marks⟩, ?_⟩ | refine ⟨⟨_, _, rfl, rfl, .siter _ _⟩, ?_⟩ | refine ⟨⟨_, _, rfl, rfl, .loop rfl rfl rfl rfl (by repeat' first | exact trivial | refine ⟨rfl, ?_⟩) rfl rfl rfl rfl⟩, ?_⟩)
theorem leads35 (R12_Mix : Int → Int → Int → Int → Int → Option Arr4_Int) (R12_Round : Int → Int → Int → Int → Option (Int × Int × Int × Int)) (R12_word : (List UInt8) → Option Int) (hS : SumsOK Try.prog (aget (sums35 R12_Mix R12_Round R12_word))) (k : api_Key) (s : List UInt8) (res : Int) (h : R12_HashF R12_Mix R12_Round R12_word k s = some res) :
    Leads Try.prog 35 0 ⟨⟨35, 95, [(0, .agg ⟨[.int .u64 k.A, .int .u64 k.B]⟩), (1, .string ⟨⟨s⟩⟩)], [.code k35_48], [], false, none⟩, [], [], 0⟩ (fun v H _ => post35 res v H) := by
  unfold R12_HashF at h
  refine ev_ok tab_ok hS true 3000 ?_
  conv => whnf
  let t : Int := wI .i64 ((wI .i64 ((s.length : Int).tdiv 8)) * 8)
  have hl := loop35_2 R12_Mix R12_Round R12_word hS _ _ res _ _ _ h rfl; simp only [head35_2] at hl
  refine Leads.re hl [] rfl ?_ ?_ <;> (repeat' first | exact trivial | refine ⟨⟨_, rfl, rfl⟩, ?_⟩ | refine ⟨⟨_, _, rfl, rfl, .rowF (vI_flat _ _) id⟩, ?_⟩ | refine ⟨⟨_, _, rfl, rfl, .rowF (vS_flat _) id⟩, ?_⟩ | refine ⟨⟨_, _, rfl, rfl, .rowF (vB_flat _) id⟩, ?_⟩ | refine ⟨⟨_, _, rfl, rfl, .cells rfl⟩, ?_⟩ | refine ⟨⟨_, _, rfl, rfl, .row rfl id⟩, ?_⟩ | refine ⟨⟨_, _, rfl, rfl, .cr rfl⟩, ?_⟩ | refine ⟨⟨_, _, rfl, rfl, .rc rfl⟩, ?_⟩ | refine ⟨⟨_, _, rfl, rfl, .marks⟩, ?_⟩ | refine ⟨⟨_, _, rfl, rfl, .siter _ _⟩, ?_⟩ | refine ⟨⟨_, _, rfl, rfl, .loop rfl rfl rfl rfl (by repeat' first | exact trivial | refine ⟨rfl, ?_⟩) rfl rfl rfl rfl⟩, ?_⟩)
theorem ok35 (R12_Mix : Int → Int → Int → Int → Int → Option Arr4_Int) (R12_Round : Int → Int → Int → Int → Option (Int × Int × Int × Int)) (R12_word : (List UInt8) → Option Int) (hS : SumsOK Try.prog (aget (sums35 R12_Mix R12_Round R12_word))) : SumOK Try.prog 35 (s35 (R12_HashF R12_Mix R12_Round R12_word)) := by
  refine SumOK.of_leads tab_ok (fun ar r ha hr => ?_) ⟨Try.f35, rfl, by decide, rfl⟩
  simp only [s35] at ha hr
  unfold r35 at hr
  split at hr <;> try (cases hr; done)
  split at hr <;> cases hr
  rename_i x h
  refine ⟨_, rfl, (leads35 R12_Mix R12_Round R12_word hS _ _ x h).mono fun v H t hp => ?_⟩
  cases hp
  exact Res.val rfl trivial
def R12_Hash : api_Key → (List UInt8) → Option Int := R12_HashF R12_Mix R12_Round R12_word
theorem lift35 : SumOK Try.prog 35 (s35 R12_Hash) := ok35 R12_Mix R12_Round R12_word (SumsOK.of_tab ⟨lift37, lift67, lift66, trivial⟩)
end Go.Vm.Code

/- The reference's hash is the program's: plain words. -/
namespace Go.Vm.Code
open Go Go.Vm

theorem iorU64_hi (k : Nat) {a b : Int} (h0 : 0 ≤ a) (h1 : a * 2 ^ k < 18446744073709551616) (hb0 : 0 ≤ b) (hb : b < 2 ^ k) (hb1 : b < 18446744073709551616) : iorI .u64 b (a * 2 ^ k) = a * 2 ^ k + b := by
  obtain ⟨n, rfl⟩ := Int.eq_ofNat_of_zero_le h0
  obtain ⟨m, rfl⟩ := Int.eq_ofNat_of_zero_le hb0
  have e : ((n : Int) * 2 ^ k) = ((n * 2 ^ k : Nat) : Int) := by push_cast; rfl
  rw [e] at h1 ⊢
  rw [iorU64 (by omega) (by omega), Nat.or_comm, or_low (by exact_mod_cast hb)]; push_cast; rfl
/-- the number of bytes, the lowest one first -/
def wrd : List UInt8 → Nat
  | [] => 0
  | b :: l => b.toNat + 256 * wrd l
theorem wrd_lt : ∀ l : List UInt8, wrd l < 256 ^ l.length
  | [] => by simp [wrd]
  | b :: l => by
    have := wrd_lt l
    have hb := b.toNat_lt
    rw [wrd, List.length_cons, Nat.pow_succ]; omega
theorem wrd_snoc : ∀ (l : List UInt8) (b : UInt8), wrd (l ++ [b]) = wrd l + 256 ^ l.length * b.toNat
  | [], b => by simp [wrd]
  | c :: l, b => by
    have := wrd_snoc l b
    rw [List.cons_append, wrd, this, wrd, List.length_cons, Nat.pow_succ, Nat.mul_add, Nat.mul_comm (256 ^ l.length) 256, Nat.mul_assoc]; omega
theorem pow_le8 {j : Nat} (h : j ≤ 8) : 256 ^ j ≤ 18446744073709551616 := by
  have : (256 : Nat) ^ j ≤ 256 ^ 8 := Nat.pow_le_pow_right (by decide) h
  simpa using this
theorem wrd8 {l : List UInt8} (h : l.length ≤ 8) : wrd l < 18446744073709551616 := Nat.lt_of_lt_of_le (wrd_lt l) (pow_le8 h)
theorem word_eq12 {s : List UInt8} (hs : s.length ≤ 8) : R12_word s = some (wrd s : Int) := by
  unfold R12_word R12_wordF
  rw [wI64 (by omega) (by omega)]
  have key := iter_eq (step := fun (st : Int × Int) => R12_word_s1 s st.1 st.2) (fun st => ((st.1.toNat * 256 ^ (st.2 + 1).toNat + wrd (s.take (st.2 + 1).toNat) : Nat) : Int)) (fun st => 0 ≤ st.1 ∧ -1 ≤ st.2 ∧ st.2 < s.length ∧ st.1.toNat < 256 ^ (s.length - (st.2 + 1).toNat)) (fun st => (st.2 + 1).toNat) ?_ FUEL (0, (s.length : Int) - 1) ⟨by simp, by simp only; omega, by simp only; omega, by simp⟩ (by rw [FUEL_eq]; simp only; omega)
  · rw [key]
    have e : ((s.length : Int) - 1 + 1).toNat = s.length := by omega
    simp only [e]; simp
  rintro ⟨n, i⟩ ⟨g1, g2, g3, g4⟩
  simp only at g1 g2 g3 g4 ⊢
  obtain ⟨v, rfl⟩ := Int.eq_ofNat_of_zero_le g1
  simp only [Int.toNat_natCast] at g4 ⊢
  unfold R12_word_s1
  by_cases hi : i ≥ 0
  · obtain ⟨j, rfl⟩ := Int.eq_ofNat_of_zero_le hi
    have e1 : ((j : Int) + 1).toNat = j + 1 := by omega
    have e2 : ((j : Int) - 1 + 1).toNat = j := by omega
    rw [e1] at g4 ⊢
    have hj : j < s.length := by omega
    have hb := s[j].toNat_lt
    have hv : v * 256 + s[j].toNat < 256 ^ (s.length - j) := by
      rw [show s.length - j = (s.length - (j + 1)) + 1 by omega, Nat.pow_succ]; omega
    have hv2 := pow_le8 (j := s.length - j) (by omega)
    refine .inr ⟨(((v * 256 + s[j].toNat : Nat) : Int), (j : Int) - 1), ?_, ⟨by simp only; omega, by simp only; omega, by simp only; omega, ?_⟩, by simp only; omega, ?_⟩
    · rw [cond_p hi, oreq_p hi, Int.toNat_natCast, List.getElem?_eq_getElem hj, Option.bind_some, wU64 (n := (v : Int) * 2 ^ 8) (by omega) (by omega), wU64 (n := (s[j].toNat : Int)) (by omega) (by omega), wU64 (by omega) (by omega), wI64 (by omega) (by omega)]
      simp only []
      congr 3 <;> omega
    · simp only [e2, Int.toNat_natCast]; exact hv
    · simp only [e2, Int.toNat_natCast]
      rw [List.take_succ_eq_append_getElem hj, wrd_snoc, List.length_take, Nat.min_eq_left (by omega), Nat.pow_succ, Nat.add_mul, Nat.mul_assoc, Nat.mul_comm (256 ^ j) 256, Nat.mul_comm (256 ^ j) s[j].toNat]
      congr 1
      omega
  · refine .inl ?_
    rw [cond_n hi]
    have e1 : (i + 1).toNat = 0 := by omega
    rw [e1]; simp [wrd]
/-- the last steps -/
def finQ (q : Arr4_Int) : Int :=
  let m := rnds 4 ⟨q.e0, q.e1, ixorI .u64 q.e2 255, q.e3⟩
  ixorI .u64 (ixorI .u64 (ixorI .u64 m.e0 m.e1) m.e2) m.e3
theorem part_eq (T : Arr4_Int → Int → Arr4_Int) : ∀ (l : List UInt8) (h : sip_Hasher) (j v : Nat), h.count.toNat % 8 = j → 0 ≤ h.count → h.last = (v : Int) → v < 256 ^ j → j + l.length < 8 → l.foldl (wrT T) h = ⟨h.made, h.s, ((v + 256 ^ j * wrd l : Nat) : Int), h.count + l.length⟩
  | [], h, j, v, hj, h0, hv, hlt, hl => by
    obtain ⟨m, s, la, c⟩ := h
    simp only at hv; subst hv
    simp [wrd]
  | b :: l, h, j, v, hj, h0, hv, hlt, hl => by
    rw [List.length_cons] at hl
    have hb := b.toNat_lt
    have hp : (256 : Nat) ^ j = 2 ^ (8 * j) := by rw [Nat.pow_mul]
    have hp2 := pow_le8 (j := j + 1) (by omega)
    rw [Nat.pow_succ] at hp2
    have hb2 : b.toNat * 256 ^ j ≤ 255 * 256 ^ j := Nat.mul_le_mul_right _ (by omega)
    have hpI : (2 : Int) ^ (8 * j) = ((256 ^ j : Nat) : Int) := by rw [hp]; push_cast; rfl
    have e1 : wI .u64 ((b.toNat : Int) * 2 ^ (8 * j)) = (b.toNat : Int) * 2 ^ (8 * j) := by
      rw [hpI, ← Int.natCast_mul]; exact wU64 (by omega) (by omega)
    have e2 : iorI .u64 (v : Int) ((b.toNat : Int) * 2 ^ (8 * j)) = ((v + 256 ^ j * b.toNat : Nat) : Int) := by
      rw [iorU64_hi (8 * j) (by omega) (by rw [hpI, ← Int.natCast_mul]; omega) (by omega) (by rw [hpI]; omega) (by omega), hpI, ← Int.natCast_mul, Nat.mul_comm]; omega
    have hw : wrT T h b = ⟨h.made, h.s, ((v + 256 ^ j * b.toNat : Nat) : Int), h.count + 1⟩ := by
      unfold wrT
      rw [hj, hv, if_neg (by omega), e1, e2]
    rw [List.foldl_cons, hw, part_eq T l _ (j + 1) (v + 256 ^ j * b.toNat) (by simp only; omega) (by simp only; omega) rfl (by rw [Nat.pow_succ, Nat.mul_comm (256 ^ j) b.toNat]; omega) (by omega)]
    simp only [wrd, Nat.pow_succ, List.length_cons]
    congr 1
    · rw [Nat.mul_add, ← Nat.mul_assoc, Nat.add_assoc]
    · omega
theorem full_eq (T : Arr4_Int → Int → Arr4_Int) {l : List UInt8} {h : sip_Hasher} (hl : l.length = 8) (hc : h.count.toNat % 8 = 0) (h0 : 0 ≤ h.count) (hv : h.last = 0) : l.foldl (wrT T) h = ⟨h.made, T h.s (wrd l : Int), 0, h.count + 8⟩ := by
  obtain ⟨l7, b, rfl⟩ : ∃ l7 b, l = l7 ++ [b] := ⟨l.dropLast, l.getLast (by intro e; rw [e] at hl; simp at hl), (List.dropLast_concat_getLast _).symm⟩
  have h7 : l7.length = 7 := by simp at hl; omega
  have hb := b.toNat_lt
  have hw := wrd_lt l7
  rw [h7] at hw
  rw [List.foldl_append, part_eq T l7 h 0 0 hc h0 (by rw [hv]; rfl) (by simp) (by omega), h7, wrd_snoc, h7]
  simp only [List.foldl_cons, List.foldl_nil, wrT, Nat.pow_zero, Nat.one_mul, Nat.zero_add]
  have e0 : (h.count + ((7 : Nat) : Int)).toNat % 8 = 7 := by omega
  have e00 : ((h.count + ((7 : Nat) : Int)).toNat + 1) % 8 = 0 := by omega
  rw [e0, if_pos e00]
  have e1 : wI .u64 ((b.toNat : Int) * 2 ^ (8 * 7)) = (b.toNat : Int) * 2 ^ (8 * 7) := wU64 (by omega) (by omega)
  have e2 : iorI .u64 (wrd l7 : Int) ((b.toNat : Int) * 2 ^ (8 * 7)) = ((wrd l7 + 256 ^ 7 * b.toNat : Nat) : Int) := by
    rw [iorU64_hi (8 * 7) (by omega) (by omega) (by omega) (by omega) (by omega)]; omega
  rw [e1, e2]
  congr 1
  omega
/-- the hash of what is left -/
def hashR (T : Arr4_Int → Int → Arr4_Int) (fin : Arr4_Int → Int) (n : Nat) (q : Arr4_Int) (l : List UInt8) : Int :=
  if h : 8 ≤ l.length then hashR T fin n (T q (wrd (l.take 8) : Int)) (l.drop 8) else fin (T q ((wrd l + n % 256 * 2 ^ 56 : Nat) : Int))
termination_by l.length
decreasing_by simp; omega
theorem fold_hashR (T : Arr4_Int → Int → Arr4_Int) (fin : Arr4_Int → Int) : ∀ (k : Nat) (l : List UInt8) (h : sip_Hasher), l.length ≤ k → h.count.toNat % 8 = 0 → 0 ≤ h.count → h.last = 0 → ∀ n : Nat, (n : Int) = h.count + l.length →
    fin (T (l.foldl (wrT T) h).s (iorI .u64 (l.foldl (wrT T) h).last (wI .u64 ((wI .u64 (l.foldl (wrT T) h).count) * 2 ^ 56)))) = hashR T fin n h.s l := by
  intro k
  induction k with
  | zero =>
    intro l h hl hc h0 hv n hn
    obtain rfl : l = [] := List.length_eq_zero_iff.1 (by omega)
    rw [hashR, dif_neg (by simp)]
    simp only [List.foldl_nil, hv, wrd]
    congr 2
    simp at hn
    rw [← hn]
    have e1 : wI .u64 ((wI .u64 (n : Int)) * 2 ^ 56) = ((n % 256 : Nat) : Int) * 2 ^ 56 := by rw [wU64m, wU64m]; omega
    rw [e1, iorU64_hi 56 (by omega) (by omega) (by omega) (by omega) (by omega)]; omega
  | succ k ih =>
    intro l h hl hc h0 hv n hn
    by_cases h8 : 8 ≤ l.length
    · rw [hashR, dif_pos h8]
      have hs : l.foldl (wrT T) h = (l.drop 8).foldl (wrT T) ⟨h.made, T h.s (wrd (l.take 8) : Int), 0, h.count + 8⟩ := by
        rw [← full_eq T (l := l.take 8) (by simp; omega) hc h0 hv, ← List.foldl_append, List.take_append_drop]
      rw [hs]
      exact ih (l.drop 8) ⟨h.made, T h.s (wrd (l.take 8) : Int), 0, h.count + 8⟩ (by simp; omega) (by simp only; omega) (by simp only; omega) rfl n (by simp; omega)
    · rw [hashR, dif_neg h8, part_eq T l h 0 0 hc h0 (by rw [hv]; rfl) (by simp) (by omega)]
      simp only [Nat.zero_add, Nat.pow_zero, Nat.one_mul]
      congr 2
      rw [← hn]
      have hw : wrd l < 256 ^ 7 := Nat.lt_of_lt_of_le (wrd_lt l) (Nat.pow_le_pow_right (by decide) (by omega))
      have e1 : wI .u64 ((wI .u64 (n : Int)) * 2 ^ 56) = ((n % 256 : Nat) : Int) * 2 ^ 56 := by rw [wU64m, wU64m]; omega
      rw [e1, iorU64_hi 56 (by omega) (by omega) (by omega) (by omega) (by omega)]; omega
theorem inner12G (r : Arr4_Int → Arr4_Int) (s : List UInt8) (t i a b c d m : Int) (hi : 0 ≤ i ∧ i < 2 ^ 62) : iter (fun (st : Int × Int × Int × Int × Int × Int) => R12_Hash_s1 (fun a b c d => some ((r ⟨a, b, c, d⟩).e0, (r ⟨a, b, c, d⟩).e1, (r ⟨a, b, c, d⟩).e2, (r ⟨a, b, c, d⟩).e3)) s t i st.1 st.2.1 st.2.2.1 st.2.2.2.1 st.2.2.2.2.1 st.2.2.2.2.2) FUEL (a, b, c, d, m, 0) =
    some (.inl (ixorI .u64 (r (r ⟨a, b, c, d⟩)).e0 m, (r (r ⟨a, b, c, d⟩)).e1, (r (r ⟨a, b, c, d⟩)).e2, (r (r ⟨a, b, c, d⟩)).e3, i + 8)) := by
  have e8 : wI .i64 (i + 8) = i + 8 := wI64 (by omega) (by omega)
  show iter _ (18446744073709551613 + 1 + 1 + 1) _ = _
  rw [iter]
  have s1 : ∀ (a b c d n : Int), n < 2 → 0 ≤ n → R12_Hash_s1 (fun a b c d => some ((r ⟨a, b, c, d⟩).e0, (r ⟨a, b, c, d⟩).e1, (r ⟨a, b, c, d⟩).e2, (r ⟨a, b, c, d⟩).e3)) s t i a b c d m n = some (.inl ((r ⟨a, b, c, d⟩).e0, (r ⟨a, b, c, d⟩).e1, (r ⟨a, b, c, d⟩).e2, (r ⟨a, b, c, d⟩).e3, m, n + 1)) := by
    intro a b c d n h1 h0
    unfold R12_Hash_s1
    rw [cond_p h1, Option.bind_some, wI64 (n := n + 1) (by omega) (by omega)]
  have s2 : ∀ (a b c d : Int), R12_Hash_s1 (fun a b c d => some ((r ⟨a, b, c, d⟩).e0, (r ⟨a, b, c, d⟩).e1, (r ⟨a, b, c, d⟩).e2, (r ⟨a, b, c, d⟩).e3)) s t i a b c d m 2 = some (.inr (.inl (ixorI .u64 a m, b, c, d, i + 8))) := by
    intro a b c d
    unfold R12_Hash_s1
    rw [cond_n (by decide), e8]
  rw [s1 a b c d 0 (by decide) (by decide)]
  simp only []
  rw [iter]
  simp only [show (0 : Int) + 1 = 1 from rfl]
  rw [s1 _ _ _ _ 1 (by decide) (by decide)]
  simp only []
  rw [iter]
  simp only [show (1 : Int) + 1 = 2 from rfl]
  rw [s2]
theorem inner12 (s : List UInt8) (t i a b c d m : Int) (hi : 0 ≤ i ∧ i < 2 ^ 62) : iter (fun (st : Int × Int × Int × Int × Int × Int) => R12_Hash_s1 R12_Round s t i st.1 st.2.1 st.2.2.1 st.2.2.2.1 st.2.2.2.2.1 st.2.2.2.2.2) FUEL (a, b, c, ixorI .u64 d m, m, 0) =
    some (.inl ((tak ⟨a, b, c, d⟩ m).e0, (tak ⟨a, b, c, d⟩ m).e1, (tak ⟨a, b, c, d⟩ m).e2, (tak ⟨a, b, c, d⟩ m).e3, i + 8)) := by
  have e : R12_Round = fun a b c d => some ((rnd ⟨a, b, c, d⟩).e0, (rnd ⟨a, b, c, d⟩).e1, (rnd ⟨a, b, c, d⟩).e2, (rnd ⟨a, b, c, d⟩).e3) := by
    funext a b c d; exact Round_eq a b c d
  rw [e, inner12G rnd s t i a b c (ixorI .u64 d m) m hi]
  simp only [tak, rnds]
theorem R12_Hash_eq {k : api_Key} {s : List UInt8} (h : s.length < 2 ^ 60) : R12_Hash k s = some (hashR tak finQ s.length (newV k).s s) := by
  unfold R12_Hash R12_HashF
  have ew : wI .i64 ((wI .i64 ((s.length : Int).tdiv 8)) * 8) = ((s.length / 8 * 8 : Nat) : Int) := by
    rw [Int.tdiv_eq_ediv_of_nonneg (by omega), wI64 (n := (s.length : Int) / 8) (by omega) (by omega), wI64 (by omega) (by omega)]; omega
  rw [ew]
  simp only []
  generalize hw : s.length / 8 * 8 = w
  have hw1 : w ≤ s.length ∧ s.length < w + 8 ∧ w % 8 = 0 := by omega
  have key := iter_eq (step := fun (st : Int × Int × Int × Int × Int) => R12_Hash_s2 R12_Mix R12_Round R12_word s (w : Int) st.1 st.2.1 st.2.2.1 st.2.2.2.1 st.2.2.2.2)
    (fun st => if st.2.2.2.2 ≤ w then hashR tak finQ s.length ⟨st.1, st.2.1, st.2.2.1, st.2.2.2.1⟩ (s.drop st.2.2.2.2.toNat) else finQ ⟨st.1, st.2.1, st.2.2.1, st.2.2.2.1⟩)
    (fun st => ∃ i : Nat, st.2.2.2.2 = i ∧ i % 8 = 0 ∧ i ≤ w + 8) (fun st => (w + 8 - st.2.2.2.2).toNat) ?_ FUEL ((newV k).s.e0, (newV k).s.e1, (newV k).s.e2, (newV k).s.e3, 0) ⟨0, rfl, by omega, by omega⟩ (by rw [FUEL_eq]; simp only; omega)
  · refine Eq.trans key ?_
    simp only [Int.toNat_zero, List.drop_zero]
    rw [if_pos (by omega)]
  rintro ⟨a, b, c, d, p⟩ ⟨i, g1, g2, g3⟩
  simp only at g1 ⊢
  subst g1
  unfold R12_Hash_s2
  by_cases hi : i ≤ w
  · rw [cond_p (by omega), if_pos (show (i : Int) ≤ w by omega), Int.toNat_natCast]
    have e8 : wI .i64 ((i : Int) + 8) = (i : Int) + 8 := wI64 (by omega) (by omega)
    by_cases hl : i = w
    · subst hl
      have e1 : (if (s.length : Int) < (i : Int) + 8 then (s.length : Int) else (i : Int) + 8) = s.length := by rw [if_pos (by omega)]
      have hlen : (s.drop i).length ≤ 7 := by simp; omega
      have et : (s.drop i).take (s.length - i) = s.drop i := List.take_of_length_le (by simp)
      have hv : wrd (s.drop i) < 256 ^ 7 := Nat.lt_of_lt_of_le (wrd_lt _) (Nat.pow_le_pow_right (by decide) hlen)
      have em : wI .u64 ((wrd (s.drop i) : Int) + wI .u64 ((wI .u64 ((s.length : Int).tmod 256)) * 2 ^ 56)) = ((wrd (s.drop i) + s.length % 256 * 2 ^ 56 : Nat) : Int) := by
        rw [Int.tmod_eq_emod_of_nonneg (by omega), wU64 (n := (s.length : Int) % 256) (by omega) (by omega), wU64 (n := (s.length : Int) % 256 * 2 ^ 56) (by omega) (by omega), wU64 (by omega) (by omega)]; omega
      refine .inr ⟨((tak ⟨a, b, c, d⟩ ((wrd (s.drop i) + s.length % 256 * 2 ^ 56 : Nat) : Int)).e0, (tak ⟨a, b, c, d⟩ ((wrd (s.drop i) + s.length % 256 * 2 ^ 56 : Nat) : Int)).e1, (tak ⟨a, b, c, d⟩ ((wrd (s.drop i) + s.length % 256 * 2 ^ 56 : Nat) : Int)).e2, (tak ⟨a, b, c, d⟩ ((wrd (s.drop i) + s.length % 256 * 2 ^ 56 : Nat) : Int)).e3, (i : Int) + 8), ?_, ⟨i + 8, by simp only; omega, by omega, by omega⟩, by simp only; omega, ?_⟩
      · simp only [e8, e1]
        rw [oreq_p (by omega), Int.toNat_natCast, et, word_eq12 (by omega), Option.bind_some, beq_self_eq_true, cond_true, oreq_p (by omega), Option.bind_some, em]
        exact inner12 s (i : Int) (i : Int) a b c d _ (by omega)
      · simp only []
        rw [if_neg (show ¬ (i : Int) + 8 ≤ i by omega), hashR, dif_neg (by omega)]
    · have h8 : i + 8 ≤ s.length := by omega
      have e1 : (if (s.length : Int) < (i : Int) + 8 then (s.length : Int) else (i : Int) + 8) = (i : Int) + 8 := by
        split
        · omega
        · rfl
      have e2 : ((i : Int) + 8).toNat - i = 8 := by omega
      have e3 : ((i : Int) == (w : Int)) = false := by rw [beq_eq_false_iff_ne]; omega
      refine .inr ⟨((tak ⟨a, b, c, d⟩ (wrd ((s.drop i).take 8) : Int)).e0, (tak ⟨a, b, c, d⟩ (wrd ((s.drop i).take 8) : Int)).e1, (tak ⟨a, b, c, d⟩ (wrd ((s.drop i).take 8) : Int)).e2, (tak ⟨a, b, c, d⟩ (wrd ((s.drop i).take 8) : Int)).e3, (i : Int) + 8), ?_, ⟨i + 8, by simp only; omega, by omega, by omega⟩, by simp only; omega, ?_⟩
      · simp only [e8, e1]
        rw [oreq_p (by omega), e2, word_eq12 (by rw [List.length_take]; omega), Option.bind_some, e3, cond_false]
        exact inner12 s (w : Int) (i : Int) a b c d _ (by omega)
      · simp only []
        rw [if_pos (show (i : Int) + 8 ≤ w by omega), show ((i : Int) + 8).toNat = i + 8 by omega]
        conv => rhs; rw [hashR, dif_pos (by simp; omega), List.drop_drop]
  · refine .inl ?_
    rw [cond_n (by omega), if_neg (show ¬ (i : Int) ≤ w by omega), Mix_eq, Option.bind_some, show cnt 4 = 4 from rfl]
    rfl
end Go.Vm.Code

namespace Go.Vm.Code
open Go Go.Vm Go.Proofs
set_option maxRecDepth 100000
set_option maxHeartbeats 4000000
set_option linter.unusedVariables false

/-! cloakroom/sip.Mix -/
def sip_MixF (sip_state_mix : Arr4_Int → Int → Option Arr4_Int) (a : Int) (b : Int) (c : Int) (d : Int) (rounds : Int) : Option Arr4_Int :=
  (sip_state_mix (Arr4_Int.mk a b c d) rounds).bind fun m =>
  some (m)
def post36 (x : Arr4_Int) (v : Value) (H : Hp) : Prop := v = .agg ⟨[.int .u64 x.e0, .int .u64 x.e1, .int .u64 x.e2, .int .u64 x.e3]⟩
def r36 (g : Int → Int → Int → Int → Int → Option Arr4_Int) : List SArg → Option SRes
  | [.v (.int .u64 a0_1), .v (.int .u64 a1_1), .v (.int .u64 a2_1), .v (.int .u64 a3_1), .v (.int .i64 a4_1)] => match g a0_1 a1_1 a2_1 a3_1 a4_1 with | some x => some ⟨.agg ⟨[.int .u64 x.e0, .int .u64 x.e1, .int .u64 x.e2, .int .u64 x.e3]⟩, [], []⟩ | none => none
  | _ => none
def s36 (g : Int → Int → Int → Int → Int → Option Arr4_Int) : Summ := ⟨[.v, .v, .v, .v, .v], r36 g⟩
theorem r36_eq {g : Int → Int → Int → Int → Int → Option Arr4_Int} {a0_1 : Int} {a1_1 : Int} {a2_1 : Int} {a3_1 : Int} {a4_1 : Int} {x : Arr4_Int} (hx : g a0_1 a1_1 a2_1 a3_1 a4_1 = some x) : (s36 g).run [.v (.int .u64 a0_1), .v (.int .u64 a1_1), .v (.int .u64 a2_1), .v (.int .u64 a3_1), .v (.int .i64 a4_1)] = some ⟨.agg ⟨[.int .u64 x.e0, .int .u64 x.e1, .int .u64 x.e2, .int .u64 x.e3]⟩, [], []⟩ := by
  show r36 g [.v (.int .u64 a0_1), .v (.int .u64 a1_1), .v (.int .u64 a2_1), .v (.int .u64 a3_1), .v (.int .i64 a4_1)] = _
  simp only [r36, hx]
abbrev sums36 (sip_state_mix : Arr4_Int → Int → Option Arr4_Int) : List (Nat × Summ) := [(65, s65 sip_state_mix)]
theorem leads36 (sip_state_mix : Arr4_Int → Int → Option Arr4_Int) (hS : SumsOK Try.prog (aget (sums36 sip_state_mix))) (a : Int) (b : Int) (c : Int) (d : Int) (rounds : Int) (res : Arr4_Int) (h : sip_MixF sip_state_mix a b c d rounds = some res) :
    Leads Try.prog 36 0 ⟨⟨36, 20, [(0, .int .u64 a), (1, .int .u64 b), (2, .int .u64 c), (3, .int .u64 d), (4, .int .i64 rounds)], [.code k36_7], [], false, none⟩, [], [], 0⟩ (fun v H _ => post36 res v H) := by
  unfold sip_MixF at h
  refine ev_ok tab_ok hS true 3000 ?_
  conv => whnf
  obtain ⟨m, hy, h2⟩ := obind.elim h; clear h; have h := h2; clear h2
  refine sumK.introF [1] (sumRun_of (aqs := [.pt [.int .u64 a, .int .u64 b, .int .u64 c, .int .u64 d], .v (.int .i64 rounds)]) (ra_cons rfl (ra_cons rfl ra_nil)) (r65_eq hy) rfl rfl rfl rfl) ?_
  conv => whnf
  all_goals (cases h)
  all_goals exact rfl
theorem ok36 (sip_state_mix : Arr4_Int → Int → Option Arr4_Int) (hS : SumsOK Try.prog (aget (sums36 sip_state_mix))) : SumOK Try.prog 36 (s36 (sip_MixF sip_state_mix)) := by
  refine SumOK.of_leads tab_ok (fun ar r ha hr => ?_) ⟨Try.f36, rfl, by decide, rfl⟩
  simp only [s36] at ha hr
  unfold r36 at hr
  split at hr <;> try (cases hr; done)
  split at hr <;> cases hr
  rename_i x h
  refine ⟨_, rfl, (leads36 sip_state_mix hS _ _ _ _ _ x h).mono fun v H t hp => ?_⟩
  cases hp
  exact Res.val rfl trivial
def sip_Mix : Int → Int → Int → Int → Int → Option Arr4_Int := sip_MixF sip_state_mix
theorem lift36 : SumOK Try.prog 36 (s36 sip_Mix) := ok36 sip_state_mix (SumsOK.of_tab ⟨lift65, trivial⟩)
end Go.Vm.Code

namespace Go.Vm.Code
open Go Go.Vm Go.Proofs
set_option maxRecDepth 100000
set_option maxHeartbeats 4000000
set_option linter.unusedVariables false

/-! cloakroom/sip.Hash -/
def sip_HashF (sip_Hasher_Sum : sip_Hasher → Option (Int × sip_Hasher)) (sip_Hasher_Sum_nil : Option Int) (sip_Hasher_Write : sip_Hasher → (List UInt8) → Option sip_Hasher) (sip_Hasher_Write_nil : (List UInt8) → Option Unit) (sip_New : api_Key → Option sip_Hasher) (k : api_Key) (s : List UInt8) : Option Int :=
  (sip_New k).bind fun n =>
  (sip_Hasher_Write n s).bind fun w =>
  (sip_Hasher_Sum w).bind fun s1 =>
  some (s1.1)
def post34 (x : Int) (v : Value) (H : Hp) : Prop := v = .int .u64 x
def r34 (g : api_Key → (List UInt8) → Option Int) : List SArg → Option SRes
  | [.v (.agg ⟨[.int .u64 a0_1, .int .u64 a0_2]⟩), .v (.string ⟨⟨a1_1⟩⟩)] => match g (api_Key.mk a0_1 a0_2) a1_1 with | some x => some ⟨.int .u64 x, [], []⟩ | none => none
  | _ => none
def s34 (g : api_Key → (List UInt8) → Option Int) : Summ := ⟨[.v, .v], r34 g⟩
theorem r34_eq {g : api_Key → (List UInt8) → Option Int} {a0_1 : Int} {a0_2 : Int} {a1_1 : List UInt8} {x : Int} (hx : g (api_Key.mk a0_1 a0_2) a1_1 = some x) : (s34 g).run [.v (.agg ⟨[.int .u64 a0_1, .int .u64 a0_2]⟩), .v (.string ⟨⟨a1_1⟩⟩)] = some ⟨.int .u64 x, [], []⟩ := by
  show r34 g [.v (.agg ⟨[.int .u64 a0_1, .int .u64 a0_2]⟩), .v (.string ⟨⟨a1_1⟩⟩)] = _
  simp only [r34, hx]
abbrev sums34 (sip_Hasher_Sum : sip_Hasher → Option (Int × sip_Hasher)) (sip_Hasher_Sum_nil : Option Int) (sip_Hasher_Write : sip_Hasher → (List UInt8) → Option sip_Hasher) (sip_Hasher_Write_nil : (List UInt8) → Option Unit) (sip_New : api_Key → Option sip_Hasher) : List (Nat × Summ) := [(33, s33 sip_Hasher_Sum sip_Hasher_Sum_nil), (32, s32 sip_Hasher_Write sip_Hasher_Write_nil), (31, s31 sip_New)]
theorem leads34 (sip_Hasher_Sum : sip_Hasher → Option (Int × sip_Hasher)) (sip_Hasher_Sum_nil : Option Int) (sip_Hasher_Write : sip_Hasher → (List UInt8) → Option sip_Hasher) (sip_Hasher_Write_nil : (List UInt8) → Option Unit) (sip_New : api_Key → Option sip_Hasher) (hS : SumsOK Try.prog (aget (sums34 sip_Hasher_Sum sip_Hasher_Sum_nil sip_Hasher_Write sip_Hasher_Write_nil sip_New))) (k : api_Key) (s : List UInt8) (res : Int) (h : sip_HashF sip_Hasher_Sum sip_Hasher_Sum_nil sip_Hasher_Write sip_Hasher_Write_nil sip_New k s = some res) :
    Leads Try.prog 34 0 ⟨⟨34, 13, [(0, .agg ⟨[.int .u64 k.A, .int .u64 k.B]⟩), (1, .string ⟨⟨s⟩⟩)], [.code k34_7], [], false, none⟩, [], [], 0⟩ (fun v H _ => post34 res v H) := by
  unfold sip_HashF at h
  refine ev_ok tab_ok hS true 3000 ?_
  conv => whnf
  obtain ⟨n, hy, h2⟩ := obind.elim h; clear h; have h := h2; clear h2
  refine sumK.introF [] (sumRun_of (aqs := [.v (.agg ⟨[.int .u64 k.A, .int .u64 k.B]⟩)]) (ra_cons rfl ra_nil) (r31_eq hy) rfl rfl rfl rfl) ?_
  conv => whnf
  obtain ⟨w, hy, h2⟩ := obind.elim h; clear h; have h := h2; clear h2
  refine sumK.introF [1] (sumRun_of (aqs := [.pt [.bool n.made, .int .u64 n.s.e0, .int .u64 n.s.e1, .int .u64 n.s.e2, .int .u64 n.s.e3, .int .u64 n.last, .int .i64 n.count], .v (.string ⟨⟨s⟩⟩)]) (ra_cons rfl (ra_cons rfl ra_nil)) (r32_eq hy) rfl rfl rfl rfl) ?_
  conv => whnf
  obtain ⟨s1, hy, h2⟩ := obind.elim h; clear h; have h := h2; clear h2
  refine sumK.introF [1] (sumRun_of (aqs := [.pt [.bool w.made, .int .u64 w.s.e0, .int .u64 w.s.e1, .int .u64 w.s.e2, .int .u64 w.s.e3, .int .u64 w.last, .int .i64 w.count]]) (ra_cons rfl ra_nil) (r33_eq hy) rfl rfl rfl rfl) ?_
  conv => whnf
  all_goals (cases h)
  all_goals exact rfl
theorem ok34 (sip_Hasher_Sum : sip_Hasher → Option (Int × sip_Hasher)) (sip_Hasher_Sum_nil : Option Int) (sip_Hasher_Write : sip_Hasher → (List UInt8) → Option sip_Hasher) (sip_Hasher_Write_nil : (List UInt8) → Option Unit) (sip_New : api_Key → Option sip_Hasher) (hS : SumsOK Try.prog (aget (sums34 sip_Hasher_Sum sip_Hasher_Sum_nil sip_Hasher_Write sip_Hasher_Write_nil sip_New))) : SumOK Try.prog 34 (s34 (sip_HashF sip_Hasher_Sum sip_Hasher_Sum_nil sip_Hasher_Write sip_Hasher_Write_nil sip_New)) := by
  refine SumOK.of_leads tab_ok (fun ar r ha hr => ?_) ⟨Try.f34, rfl, by decide, rfl⟩
  simp only [s34] at ha hr
  unfold r34 at hr
  split at hr <;> try (cases hr; done)
  split at hr <;> cases hr
  rename_i x h
  refine ⟨_, rfl, (leads34 sip_Hasher_Sum sip_Hasher_Sum_nil sip_Hasher_Write sip_Hasher_Write_nil sip_New hS _ _ x h).mono fun v H t hp => ?_⟩
  cases hp
  exact Res.val rfl trivial
def sip_Hash : api_Key → (List UInt8) → Option Int := sip_HashF sip_Hasher_Sum sip_Hasher_Sum_nil sip_Hasher_Write sip_Hasher_Write_nil sip_New
theorem lift34 : SumOK Try.prog 34 (s34 sip_Hash) := ok34 sip_Hasher_Sum sip_Hasher_Sum_nil sip_Hasher_Write sip_Hasher_Write_nil sip_New (SumsOK.of_tab ⟨lift33, lift32, lift31, trivial⟩)
end Go.Vm.Code

/- The whole hash, in plain words. -/
namespace Go.Vm.Code
open Go Go.Vm

theorem sipMix_eq (a b c d n : Int) : sip_Mix a b c d n = some (rnds (cnt n) ⟨a, b, c, d⟩) := by
  unfold sip_Mix sip_MixF
  rw [mix_eq]; rfl
theorem Hash_eq {k : api_Key} {s : List UInt8} (h : s.length < 2 ^ 61) : sip_Hash k s = some (sumV (s.foldl wrB (newV k))) := by
  unfold sip_Hash sip_HashF
  rw [New_eq, Option.bind_some, Write_eq rfl (by simp [newV]) (by simp [newV]; omega), Option.bind_some, Sum_eq (by rw [(wrL s _).1]; rfl)]; rfl
theorem Hash_R {k : api_Key} {s : List UInt8} (h : s.length < 2 ^ 61) : sip_Hash k s = some (hashR tak finQ s.length (newV k).s s) := by
  rw [Hash_eq h]
  congr 1
  exact fold_hashR tak finQ s.length s (newV k) (Nat.le_refl _) rfl (by simp [newV]) rfl s.length (by simp [newV])

end Go.Vm.Code

namespace Go.Vm.Code
open Go Go.Vm Go.Proofs
set_option maxRecDepth 100000
set_option maxHeartbeats 4000000
set_option linter.unusedVariables false

/-! cloakroom/cloakroomlaw12.awake -/
def law12_awakeF (sip_Hash : api_Key → (List UInt8) → Option Int) : Option Bool :=
  (sip_Hash (api_Key.mk 506097522914230528 1084818905618843912) [0, 1, 2, 3, 4, 5, 6, 7, 8, 9, 10, 11, 12, 13, 14]).bind fun xh =>
  some (xh == 11613035633349379557)
def post30 (x : Bool) (v : Value) (H : Hp) : Prop := v = .bool x
def r30 (g : Option Bool) : List SArg → Option SRes
  | [] => match g  with | some x => some ⟨.bool x, [], []⟩ | none => none
  | _ => none
def s30 (g : Option Bool) : Summ := ⟨[], r30 g⟩
theorem r30_eq {g : Option Bool} {x : Bool} (hx : g  = some x) : (s30 g).run [] = some ⟨.bool x, [], []⟩ := by
  show r30 g [] = _
  simp only [r30, hx]
abbrev sums30 (sip_Hash : api_Key → (List UInt8) → Option Int) : List (Nat × Summ) := [(34, s34 sip_Hash)]
theorem leads30 (sip_Hash : api_Key → (List UInt8) → Option Int) (hS : SumsOK Try.prog (aget (sums30 sip_Hash))) (res : Bool) (h : law12_awakeF sip_Hash = some res) :
    Leads Try.prog 30 0 ⟨⟨30, 4, [], [.code k30_3], [], false, none⟩, [], [], 0⟩ (fun v H _ => post30 res v H) := by
  unfold law12_awakeF at h
  refine ev_ok tab_ok hS true 3000 ?_
  conv => whnf
  obtain ⟨xh, hy, h2⟩ := obind.elim h; clear h; have h := h2; clear h2
  refine sumK.introF [] (sumRun_of (aqs := [.v (.agg ⟨[.int .u64 506097522914230528, .int .u64 1084818905618843912]⟩), .v (.string ⟨⟨[0, 1, 2, 3, 4, 5, 6, 7, 8, 9, 10, 11, 12, 13, 14]⟩⟩)]) (ra_cons rfl (ra_cons rfl ra_nil)) (r34_eq hy) rfl rfl rfl rfl) ?_
  conv => whnf
  all_goals (cases h)
  all_goals exact rfl
theorem ok30 (sip_Hash : api_Key → (List UInt8) → Option Int) (hS : SumsOK Try.prog (aget (sums30 sip_Hash))) : SumOK Try.prog 30 (s30 (law12_awakeF sip_Hash)) := by
  refine SumOK.of_leads tab_ok (fun ar r ha hr => ?_) ⟨Try.f30, rfl, by decide, rfl⟩
  simp only [s30] at ha hr
  unfold r30 at hr
  split at hr <;> try (cases hr; done)
  split at hr <;> cases hr
  rename_i x h
  refine ⟨_, rfl, (leads30 sip_Hash hS x h).mono fun v H t hp => ?_⟩
  cases hp
  exact Res.val rfl trivial
def law12_awake : Option Bool := law12_awakeF sip_Hash
theorem lift30 : SumOK Try.prog 30 (s30 law12_awake) := ok30 sip_Hash (SumsOK.of_tab ⟨lift34, trivial⟩)
end Go.Vm.Code

namespace Go.Vm.Code
open Go Go.Vm Go.Proofs
set_option maxRecDepth 100000
set_option maxHeartbeats 4000000
set_option linter.unusedVariables false

/-! cloakroom/cloakroomlaw12.SipParts -/
def law12_SipParts_s1 (law12_awake : Option Bool) (sip_Hash : api_Key → (List UInt8) → Option Int) (sip_Hasher_Sum : sip_Hasher → Option (Int × sip_Hasher)) (sip_Hasher_Sum_nil : Option Int) (sip_Hasher_Write : sip_Hasher → (List UInt8) → Option sip_Hasher) (sip_Hasher_Write_nil : (List UInt8) → Option Unit) (k : api_Key) (l : List (List UInt8)) (all : List UInt8) (i : Int) (xh : Bool) (xh1 : Int) (xh2 : Int) (xh3 : Int) (xh4 : Int) (xh5 : Int) (xh6 : Int) : Option (Sum ((List UInt8) × Int × Bool × Int × Int × Int × Int × Int × Int) Bool) :=
  cond (decide (i < (l.length : Int)))
    (
    oreq (decide ((0 : Int) ≤ i ∧ i < (l.length : Int))) <|
    (l[i.toNat]?).bind fun (e : List UInt8) =>
    cond (decide ((e.length : Int) > 40))
      (
      (law12_awake).bind fun a1 =>
      some (.inr (a1)))
      (
      oreq (decide ((0 : Int) ≤ i ∧ i < (l.length : Int))) <|
      (l[i.toNat]?).bind fun (e1 : List UInt8) =>
      (sip_Hasher_Write (sip_Hasher.mk xh (Arr4_Int.mk xh1 xh2 xh3 xh4) xh5 xh6) e1).bind fun w =>
      oreq (decide ((0 : Int) ≤ i ∧ i < (l.length : Int))) <|
      (l[i.toNat]?).bind fun (e2 : List UInt8) =>
      oreq (decide (all.length + e2.length < 2 ^ 63)) <|
      (sip_Hasher_Sum w).bind fun s =>
      (sip_Hash k (all ++ e2)).bind fun xh7 =>
      cond (s.1 != xh7)
        (
        some (.inr (false)))
        (
        (sip_Hasher_Sum s.2).bind fun s1 =>
        (sip_Hasher_Sum s1.2).bind fun s2 =>
        cond (s1.1 != s2.1)
          (
          some (.inr (false)))
          (
          some (.inl (all ++ e2, wI .i64 (i + 1), s2.2.made, s2.2.s.e0, s2.2.s.e1, s2.2.s.e2, s2.2.s.e3, s2.2.last, s2.2.count))))))
    (
    (sip_Hasher_Write_nil [97]).bind fun n1 =>
    (sip_Hasher_Write (sip_Hasher.mk false (Arr4_Int.mk 0 0 0 0) 0 0) [97]).bind fun w1 =>
    (sip_Hasher_Sum_nil).bind fun n2 =>
    cond (n2 == 0)
      (
      (sip_Hasher_Sum w1).bind fun s3 =>
      cond (s3.1 == 0)
        (
        (law12_awake).bind fun a2 =>
        some (.inr (a2)))
        (
        some (.inr (false))))
      (
      some (.inr (false))))
def law12_SipPartsF (law12_awake : Option Bool) (sip_Hash : api_Key → (List UInt8) → Option Int) (sip_Hasher_Sum : sip_Hasher → Option (Int × sip_Hasher)) (sip_Hasher_Sum_nil : Option Int) (sip_Hasher_Write : sip_Hasher → (List UInt8) → Option sip_Hasher) (sip_Hasher_Write_nil : (List UInt8) → Option Unit) (sip_New : api_Key → Option sip_Hasher) (k : api_Key) (l : List (List UInt8)) : Option Bool :=
  cond (decide ((l.length : Int) > 10))
    (
    (law12_awake).bind fun a =>
    some (a))
    (
    (sip_New k).bind fun n =>
    iter (fun st => law12_SipParts_s1 law12_awake sip_Hash sip_Hasher_Sum sip_Hasher_Sum_nil sip_Hasher_Write sip_Hasher_Write_nil k l st.1 st.2.1 st.2.2.1 st.2.2.2.1 st.2.2.2.2.1 st.2.2.2.2.2.1 st.2.2.2.2.2.2.1 st.2.2.2.2.2.2.2.1 st.2.2.2.2.2.2.2.2) FUEL ([], 0, n.made, n.s.e0, n.s.e1, n.s.e2, n.s.e3, n.last, n.count))
def post8 (x : Bool) (v : Value) (H : Hp) : Prop := v = .bool x
def r8 (g : api_Key → (List (List UInt8)) → Option Bool) : List SArg → Option SRes
  | [.v (.agg ⟨[.int .u64 a0_1, .int .u64 a0_2]⟩), .sl n1 cs1] => match unL asS cs1 with | some y1 => (match g (api_Key.mk a0_1 a0_2) y1 with | some x => some ⟨.bool x, [], []⟩ | none => none) | none => none
  | _ => none
def s8 (g : api_Key → (List (List UInt8)) → Option Bool) : Summ := ⟨[.v, .sl 1], r8 g⟩
theorem r8_eq {g : api_Key → (List (List UInt8)) → Option Bool} {a0_1 : Int} {a0_2 : Int} {y1 : List (List UInt8)} {x : Bool} (hx : g (api_Key.mk a0_1 a0_2) y1 = some x) : (s8 g).run [.v (.agg ⟨[.int .u64 a0_1, .int .u64 a0_2]⟩), .sl y1.length (vS y1)] = some ⟨.bool x, [], []⟩ := by
  show r8 g [.v (.agg ⟨[.int .u64 a0_1, .int .u64 a0_2]⟩), .sl y1.length (vS y1)] = _
  simp only [r8, unS_vS, hx]
abbrev sums8 (law12_awake : Option Bool) (sip_Hash : api_Key → (List UInt8) → Option Int) (sip_Hasher_Sum : sip_Hasher → Option (Int × sip_Hasher)) (sip_Hasher_Sum_nil : Option Int) (sip_Hasher_Write : sip_Hasher → (List UInt8) → Option sip_Hasher) (sip_Hasher_Write_nil : (List UInt8) → Option Unit) (sip_New : api_Key → Option sip_Hasher) : List (Nat × Summ) := [(30, s30 law12_awake), (34, s34 sip_Hash), (33, s33 sip_Hasher_Sum sip_Hasher_Sum_nil), (32, s32 sip_Hasher_Write sip_Hasher_Write_nil), (31, s31 sip_New)]
def head8_1 (k : api_Key) (l : List (List UInt8)) (all : List UInt8) (i : Int) (xh : Bool) (xh1 : Int) (xh2 : Int) (xh3 : Int) (xh4 : Int) (xh5 : Int) (xh6 : Int) : VM :=
  ⟨⟨8, 71, [(1, .slice (some ⟨0, 0, none⟩) l.length 1), (2, .pointer (some ⟨1, 0, none⟩)), (5, .pointer (some ⟨2, 0, none⟩)), (6, .string ⟨⟨all⟩⟩), (7, .int .i64 i)], [.code k8_30, .inLoop k8_30, .inBlock 0, .code k8_43], [], false, none⟩, [], [(0, .row false (vS l)), (1, .cells [.int .u64 k.A, .int .u64 k.B]), (2, .row true [.bool xh, .int .u64 xh1, .int .u64 xh2, .int .u64 xh3, .int .u64 xh4, .int .u64 xh5, .int .i64 xh6])], 3⟩
theorem loop8_1 (law12_awake : Option Bool) (sip_Hash : api_Key → (List UInt8) → Option Int) (sip_Hasher_Sum : sip_Hasher → Option (Int × sip_Hasher)) (sip_Hasher_Sum_nil : Option Int) (sip_Hasher_Write : sip_Hasher → (List UInt8) → Option sip_Hasher) (sip_Hasher_Write_nil : (List UInt8) → Option Unit) (sip_New : api_Key → Option sip_Hasher) (hS : SumsOK Try.prog (aget (sums8 law12_awake sip_Hash sip_Hasher_Sum sip_Hasher_Sum_nil sip_Hasher_Write sip_Hasher_Write_nil sip_New))) (k : api_Key) (l : List (List UInt8)) (res : Bool) : ∀ fuel (st : (List UInt8) × Int × Bool × Int × Int × Int × Int × Int × Int) (o : Bool), iter (fun st => law12_SipParts_s1 law12_awake sip_Hash sip_Hasher_Sum sip_Hasher_Sum_nil sip_Hasher_Write sip_Hasher_Write_nil k l st.1 st.2.1 st.2.2.1 st.2.2.2.1 st.2.2.2.2.1 st.2.2.2.2.2.1 st.2.2.2.2.2.2.1 st.2.2.2.2.2.2.2.1 st.2.2.2.2.2.2.2.2) fuel st = some o → (o = res) →
    Leads Try.prog 8 1 (head8_1 k l st.1 st.2.1 st.2.2.1 st.2.2.2.1 st.2.2.2.2.1 st.2.2.2.2.2.1 st.2.2.2.2.2.2.1 st.2.2.2.2.2.2.2.1 st.2.2.2.2.2.2.2.2) (fun v H _ => post8 res v H) := by
  intro fuel st o h hc
  refine iter_leads (head := fun st => head8_1 k l st.1 st.2.1 st.2.2.1 st.2.2.2.1 st.2.2.2.2.1 st.2.2.2.2.2.1 st.2.2.2.2.2.2.1 st.2.2.2.2.2.2.2.1 st.2.2.2.2.2.2.2.2) (C := fun o => (o = res)) ?_ fuel st o h hc
  clear h hc o st fuel
  intro st o h hc
  obtain ⟨all, i, xh, xh1, xh2, xh3, xh4, xh5, xh6⟩ := st
  replace h : law12_SipParts_s1 law12_awake sip_Hash sip_Hasher_Sum sip_Hasher_Sum_nil sip_Hasher_Write sip_Hasher_Write_nil k l all i xh xh1 xh2 xh3 xh4 xh5 xh6 = some o := h
  show Leads Try.prog 8 1 (head8_1 k l all i xh xh1 xh2 xh3 xh4 xh5 xh6) (fun v H _ => post8 res v H)
  unfold law12_SipParts_s1 at h
  refine ev_ok tab_ok hS true 3000 ?_
  conv => whnf
  refine br.h2 h ?_ ?_ ?_
  · rfl
  · clear h; intro hb h; conv => whnf
    obtain ⟨n1, hy, h2⟩ := obind.elim h; clear h; have h := h2; clear h2
    refine sumK.introF [] (sumRun_of (aqs := [.v (.pointer none), .v (.string ⟨⟨[97]⟩⟩)]) (ra_cons rfl (ra_cons rfl ra_nil)) (r32n_eq hy) rfl rfl rfl rfl) ?_
    conv => whnf
    obtain ⟨w1, hy, h2⟩ := obind.elim h; clear h; have h := h2; clear h2
    refine sumK.introF [3] (sumRun_of (aqs := [.pt [.bool false, .int .u64 0, .int .u64 0, .int .u64 0, .int .u64 0, .int .u64 0, .int .i64 0], .v (.string ⟨⟨[97]⟩⟩)]) (ra_cons rfl (ra_cons rfl ra_nil)) (r32_eq hy) rfl rfl rfl rfl) ?_
    conv => whnf
    obtain ⟨n2, hy, h2⟩ := obind.elim h; clear h; have h := h2; clear h2
    refine sumK.introF [] (sumRun_of (aqs := [.v (.pointer none)]) (ra_cons rfl ra_nil) (r33n_eq hy) rfl rfl rfl rfl) ?_
    conv => whnf
    refine br.h2 h ?_ ?_ ?_
    · rfl
    · clear h; intro hb h; conv => whnf
      all_goals (cases h; cases hc)
      all_goals exact rfl
    clear h; intro hb h; conv => whnf
    obtain ⟨s3, hy, h2⟩ := obind.elim h; clear h; have h := h2; clear h2
    refine sumK.introF [3] (sumRun_of (aqs := [.pt [.bool w1.made, .int .u64 w1.s.e0, .int .u64 w1.s.e1, .int .u64 w1.s.e2, .int .u64 w1.s.e3, .int .u64 w1.last, .int .i64 w1.count]]) (ra_cons rfl ra_nil) (r33_eq hy) rfl rfl rfl rfl) ?_
    conv => whnf
    refine br.h2 h ?_ ?_ ?_
    · rfl
    · clear h; intro hb h; conv => whnf
      all_goals (cases h; cases hc)
      all_goals exact rfl
    clear h; intro hb h; conv => whnf
    obtain ⟨a2, hy, h2⟩ := obind.elim h; clear h; have h := h2; clear h2
    refine sumK.introF [] (sumRun_of (aqs := []) ra_nil (r30_eq hy) rfl rfl rfl rfl) ?_
    conv => whnf
    all_goals (cases h; cases hc)
    all_goals exact rfl
  clear h; intro hb h; conv => whnf
  replace h := oreq.elim h; have hb := h.1; replace h := h.2
  first | (refine req.intro hb ?_; conv => whnf) | skip
  obtain ⟨e, hy, h2⟩ := obind.elim h; clear h; have h := h2; clear h2
  refine rd.S hy (by first | rfl | (rw [Nat.zero_add, Nat.mul_one]; done) | omega) ?_
  conv => whnf
  refine br.h h ?_ ?_ ?_
  · rfl
  · clear h; intro hb h; conv => whnf
    obtain ⟨a1, hy, h2⟩ := obind.elim h; clear h; have h := h2; clear h2
    refine sumK.introF [] (sumRun_of (aqs := []) ra_nil (r30_eq hy) rfl rfl rfl rfl) ?_
    conv => whnf
    all_goals (cases h; cases hc)
    all_goals exact rfl
  clear h; intro hb h; conv => whnf
  replace h := oreq.elim h; have hb := h.1; replace h := h.2
  first | (refine req.intro hb ?_; conv => whnf) | skip
  obtain ⟨e1, hy, h2⟩ := obind.elim h; clear h; have h := h2; clear h2
  refine rd.S hy (by first | rfl | (rw [Nat.zero_add, Nat.mul_one]; done) | omega) ?_
  conv => whnf
  obtain ⟨w, hy, h2⟩ := obind.elim h; clear h; have h := h2; clear h2
  refine sumK.introF [2] (sumRun_of (aqs := [.pt [.bool xh, .int .u64 xh1, .int .u64 xh2, .int .u64 xh3, .int .u64 xh4, .int .u64 xh5, .int .i64 xh6], .v (.string ⟨⟨e1⟩⟩)]) (ra_cons rfl (ra_cons rfl ra_nil)) (r32_eq hy) rfl rfl rfl rfl) ?_
  conv => whnf
  replace h := oreq.elim h; have hb := h.1; replace h := h.2
  first | (refine req.intro hb ?_; conv => whnf) | skip
  obtain ⟨e2, hy, h2⟩ := obind.elim h; clear h; have h := h2; clear h2
  refine rd.S hy (by first | rfl | (rw [Nat.zero_add, Nat.mul_one]; done) | omega) ?_
  conv => whnf
  replace h := oreq.elim h; have hb := h.1; replace h := h.2
  first | (refine req.intro hb ?_; conv => whnf) | skip
  obtain ⟨s, hy, h2⟩ := obind.elim h; clear h; have h := h2; clear h2
  refine sumK.introF [2] (sumRun_of (aqs := [.pt [.bool w.made, .int .u64 w.s.e0, .int .u64 w.s.e1, .int .u64 w.s.e2, .int .u64 w.s.e3, .int .u64 w.last, .int .i64 w.count]]) (ra_cons rfl ra_nil) (r33_eq hy) rfl rfl rfl rfl) ?_
  conv => whnf
  obtain ⟨xh7, hy, h2⟩ := obind.elim h; clear h; have h := h2; clear h2
  refine sumK.introF [] (sumRun_of (aqs := [.v (.agg ⟨[.int .u64 k.A, .int .u64 k.B]⟩), .v (.string ⟨⟨all ++ e2⟩⟩)]) (ra_cons rfl (ra_cons rfl ra_nil)) (r34_eq hy) rfl rfl rfl rfl) ?_
  conv => whnf
  refine br.h h ?_ ?_ ?_
  · rfl
  · clear h; intro hb h; conv => whnf
    all_goals (cases h; cases hc)
    all_goals exact rfl
  clear h; intro hb h; conv => whnf
  obtain ⟨s1, hy, h2⟩ := obind.elim h; clear h; have h := h2; clear h2
  refine sumK.introF [2] (sumRun_of (aqs := [.pt [.bool s.2.made, .int .u64 s.2.s.e0, .int .u64 s.2.s.e1, .int .u64 s.2.s.e2, .int .u64 s.2.s.e3, .int .u64 s.2.last, .int .i64 s.2.count]]) (ra_cons rfl ra_nil) (r33_eq hy) rfl rfl rfl rfl) ?_
  conv => whnf
  obtain ⟨s2, hy, h2⟩ := obind.elim h; clear h; have h := h2; clear h2
  refine sumK.introF [2] (sumRun_of (aqs := [.pt [.bool s1.2.made, .int .u64 s1.2.s.e0, .int .u64 s1.2.s.e1, .int .u64 s1.2.s.e2, .int .u64 s1.2.s.e3, .int .u64 s1.2.last, .int .i64 s1.2.count]]) (ra_cons rfl ra_nil) (r33_eq hy) rfl rfl rfl rfl) ?_
  conv => whnf
  refine br.h h ?_ ?_ ?_
  · rfl
  · clear h; intro hb h; conv => whnf
    all_goals (cases h; cases hc)
    all_goals exact rfl
  clear h; intro hb h; conv => whnf
  cases h; simp only [Sum.elim_inl, Sum.elim_inr, head8_1] at hc
  refine Leads.re hc [(0, 0), (1, 1), (2, 2)] rfl ?_ ?_ <;> (repeat' first | exact trivial | refine ⟨⟨_, rfl, rfl⟩, ?_⟩ | refine ⟨⟨_, _, rfl, rfl, .rowF (vI_flat _ _) id⟩, ?_⟩ | refine ⟨⟨_, _, rfl, rfl, .rowF (vS_flat _) id⟩, ?_⟩ | refine ⟨⟨_, _, rfl, rfl, .rowF (vB_flat _) id⟩, ?_⟩ | refine ⟨⟨_, _, rfl, rfl, .cells rfl⟩, ?_⟩ | refine ⟨⟨_, _, rfl, rfl, .row rfl id⟩, ?_⟩ | refine ⟨⟨_, _, rfl, rfl, .cr rfl⟩, ?_⟩ | refine ⟨⟨_, _, rfl, rfl, .rc rfl⟩, ?_⟩ | refine ⟨⟨_, _, rfl, rfl, .marks⟩, ?_⟩ | refine ⟨⟨_, _, rfl, rfl, .siter _ _⟩, ?_⟩ | refine ⟨⟨_, _, rfl, rfl, .loop rfl rfl rfl rfl (by repeat' first | exact trivial | refine ⟨rfl, ?_⟩) rfl rfl rfl rfl⟩, ?_⟩)
theorem leads8 (law12_awake : Option Bool) (sip_Hash : api_Key → (List UInt8) → Option Int) (sip_Hasher_Sum : sip_Hasher → Option (Int × sip_Hasher)) (sip_Hasher_Sum_nil : Option Int) (sip_Hasher_Write : sip_Hasher → (List UInt8) → Option sip_Hasher) (sip_Hasher_Write_nil : (List UInt8) → Option Unit) (sip_New : api_Key → Option sip_Hasher) (hS : SumsOK Try.prog (aget (sums8 law12_awake sip_Hash sip_Hasher_Sum sip_Hasher_Sum_nil sip_Hasher_Write sip_Hasher_Write_nil sip_New))) (k : api_Key) (l : List (List UInt8)) (res : Bool) (h : law12_SipPartsF law12_awake sip_Hash sip_Hasher_Sum sip_Hasher_Sum_nil sip_Hasher_Write sip_Hasher_Write_nil sip_New k l = some res) :
    Leads Try.prog 8 1 ⟨⟨8, 71, [(0, .agg ⟨[.int .u64 k.A, .int .u64 k.B]⟩), (1, .slice (some ⟨0, 0, none⟩) l.length 1)], [.code k8_48], [], false, none⟩, [], [(0, .row false (vS l))], 1⟩ (fun v H _ => post8 res v H) := by
  unfold law12_SipPartsF at h
  refine ev_ok tab_ok hS true 3000 ?_
  conv => whnf
  refine br.h h ?_ ?_ ?_
  · rfl
  · clear h; intro hb h; conv => whnf
    obtain ⟨a, hy, h2⟩ := obind.elim h; clear h; have h := h2; clear h2
    refine sumK.introF [] (sumRun_of (aqs := []) ra_nil (r30_eq hy) rfl rfl rfl rfl) ?_
    conv => whnf
    all_goals (cases h)
    all_goals exact rfl
  clear h; intro hb h; conv => whnf
  obtain ⟨n, hy, h2⟩ := obind.elim h; clear h; have h := h2; clear h2
  refine sumK.introF [] (sumRun_of (aqs := [.v (.agg ⟨[.int .u64 k.A, .int .u64 k.B]⟩)]) (ra_cons rfl ra_nil) (r31_eq hy) rfl rfl rfl rfl) ?_
  conv => whnf
  have hl := loop8_1 law12_awake sip_Hash sip_Hasher_Sum sip_Hasher_Sum_nil sip_Hasher_Write sip_Hasher_Write_nil sip_New hS _ _ res _ _ _ h rfl; simp only [head8_1] at hl
  refine Leads.re hl [(0, 0), (1, 1), (2, 2)] rfl ?_ ?_ <;> (repeat' first | exact trivial | refine ⟨⟨_, rfl, rfl⟩, ?_⟩ | refine ⟨⟨_, _, rfl, rfl, .rowF (vI_flat _ _) id⟩, ?_⟩ | refine ⟨⟨_, _, rfl, rfl, .rowF (vS_flat _) id⟩, ?_⟩ | refine ⟨⟨_, _, rfl, rfl, .rowF (vB_flat _) id⟩, ?_⟩ | refine ⟨⟨_, _, rfl, rfl, .cells rfl⟩, ?_⟩ | refine ⟨⟨_, _, rfl, rfl, .row rfl id⟩, ?_⟩ | refine ⟨⟨_, _, rfl, rfl, .cr rfl⟩, ?_⟩ | refine ⟨⟨_, _, rfl, rfl, .rc rfl⟩, ?_⟩ | refine ⟨⟨_, _, rfl, rfl, .marks⟩, ?_⟩ | refine ⟨⟨_, _, rfl, rfl, .siter _ _⟩, ?_⟩ | refine ⟨⟨_, _, rfl, rfl, .loop rfl rfl rfl rfl (by repeat' first | exact trivial | refine ⟨rfl, ?_⟩) rfl rfl rfl rfl⟩, ?_⟩)
theorem ok8 (law12_awake : Option Bool) (sip_Hash : api_Key → (List UInt8) → Option Int) (sip_Hasher_Sum : sip_Hasher → Option (Int × sip_Hasher)) (sip_Hasher_Sum_nil : Option Int) (sip_Hasher_Write : sip_Hasher → (List UInt8) → Option sip_Hasher) (sip_Hasher_Write_nil : (List UInt8) → Option Unit) (sip_New : api_Key → Option sip_Hasher) (hS : SumsOK Try.prog (aget (sums8 law12_awake sip_Hash sip_Hasher_Sum sip_Hasher_Sum_nil sip_Hasher_Write sip_Hasher_Write_nil sip_New))) : SumOK Try.prog 8 (s8 (law12_SipPartsF law12_awake sip_Hash sip_Hasher_Sum sip_Hasher_Sum_nil sip_Hasher_Write sip_Hasher_Write_nil sip_New)) := by
  refine SumOK.of_leads tab_ok (fun ar r ha hr => ?_) ⟨Try.f8, rfl, by decide, rfl⟩
  simp only [s8] at ha hr
  unfold r8 at hr
  split at hr <;> try (cases hr; done)
  split at hr <;> try (cases hr; done)
  rename_i y1 ey1
  have ey1 := unS_eq ey1
  split at hr <;> cases hr
  rename_i x h
  subst ey1
  simp only [argsOK, vI_len, vB_len, vS_len, Nat.mul_one] at ha
  obtain ⟨-, hn1, -, -⟩ := ha
  subst hn1
  refine ⟨_, rfl, (leads8 law12_awake sip_Hash sip_Hasher_Sum sip_Hasher_Sum_nil sip_Hasher_Write sip_Hasher_Write_nil sip_New hS _ _ x h).mono fun v H t hp => ?_⟩
  cases hp
  exact Res.val rfl trivial
def law12_SipParts : api_Key → (List (List UInt8)) → Option Bool := law12_SipPartsF law12_awake sip_Hash sip_Hasher_Sum sip_Hasher_Sum_nil sip_Hasher_Write sip_Hasher_Write_nil sip_New
theorem lift8 : SumOK Try.prog 8 (s8 law12_SipParts) := ok8 law12_awake sip_Hash sip_Hasher_Sum sip_Hasher_Sum_nil sip_Hasher_Write sip_Hasher_Write_nil sip_New (SumsOK.of_tab ⟨lift30, lift34, lift33, lift32, lift31, trivial⟩)
end Go.Vm.Code

/- SipParts, in plain words. -/
namespace Go.Vm.Code
open Go Go.Vm
theorem awake12 : law12_awake = some true := by decide +kernel
theorem sipParts (k : api_Key) (l : List (List UInt8)) : law12_SipParts k l = some true := by
  unfold law12_SipParts law12_SipPartsF
  rw [awake12]
  by_cases hl : (l.length : Int) > 10
  · rw [cond_p hl]; rfl
  rw [cond_n hl, New_eq, Option.bind_some]
  refine iter_eq (fun _ => true) (fun (st : List UInt8 × Int × Bool × Int × Int × Int × Int × Int × Int) => 0 ≤ st.2.1 ∧ st.2.1 ≤ l.length ∧ (st.1.length : Int) ≤ 40 * st.2.1 ∧
    (⟨st.2.2.1, ⟨st.2.2.2.1, st.2.2.2.2.1, st.2.2.2.2.2.1, st.2.2.2.2.2.2.1⟩, st.2.2.2.2.2.2.2.1, st.2.2.2.2.2.2.2.2⟩ : sip_Hasher) = st.1.foldl wrB (newV k)) (fun st => (l.length - st.2.1).toNat) ?_ FUEL _ ⟨by simp, by simp, by simp, rfl⟩ (by rw [FUEL_eq]; simp only; omega)
  rintro ⟨all, p, x0, x1, x2, x3, x4, x5, x6⟩ ⟨g1, g2, g3, g4⟩
  simp only at g1 g2 g3 g4 ⊢
  obtain ⟨i, rfl⟩ := Int.eq_ofNat_of_zero_le g1
  unfold law12_SipParts_s1
  rw [g4]
  by_cases hi : i < l.length
  · by_cases he : (l[i].length : Int) > 40
    · refine .inl ?_
      simp (disch := omega) only [cond_p, oreq_p, Int.toNat_natCast, List.getElem?_eq_getElem, Option.bind_some]
    · have hm : (all.foldl wrB (newV k)).made = true := (wrL all _).1
      have hc : (all.foldl wrB (newV k)).count = all.length := by rw [(wrL all _).2]; simp [newV]
      have hm2 : ((all ++ l[i]).foldl wrB (newV k)).made = true := (wrL _ _).1
      have hlen : (all ++ l[i]).length = all.length + l[i].length := List.length_append
      refine .inr ⟨(all ++ l[i], ((i + 1 : Nat) : Int), ((all ++ l[i]).foldl wrB (newV k)).made, ((all ++ l[i]).foldl wrB (newV k)).s.e0, ((all ++ l[i]).foldl wrB (newV k)).s.e1, ((all ++ l[i]).foldl wrB (newV k)).s.e2, ((all ++ l[i]).foldl wrB (newV k)).s.e3, ((all ++ l[i]).foldl wrB (newV k)).last, ((all ++ l[i]).foldl wrB (newV k)).count), ?_, ⟨by simp only; omega, by simp only; omega, by simp only; omega, rfl⟩, by simp only; omega, trivial⟩
      rw [cond_p (by omega), oreq_p (by omega), Int.toNat_natCast, List.getElem?_eq_getElem hi, Option.bind_some, cond_n he, oreq_p (by omega), Option.bind_some, Write_eq hm (by omega) (by omega), Option.bind_some, oreq_p (by omega), Option.bind_some, oreq_p (by omega), ← List.foldl_append,
        Sum_eq hm2, Option.bind_some, Hash_eq (by omega), Option.bind_some]
      simp only [bne_self_eq_false, cond_false]
      rw [Sum_eq hm2, Option.bind_some]
      simp only []
      rw [Sum_eq hm2, Option.bind_some]
      simp only [bne_self_eq_false, cond_false]
      rw [wI64 (by omega) (by omega)]; rfl
  · refine .inl ?_
    rw [cond_n (by omega)]
    rfl
end Go.Vm.Code

namespace Go.Vm.Code
open Go Go.Vm Go.Proofs
set_option maxRecDepth 100000
set_option maxHeartbeats 4000000
set_option linter.unusedVariables false

/-! cloakroom/cloakroomlaw12.SipTells -/
def law12_SipTellsF (R12_Hash : api_Key → (List UInt8) → Option Int) (R12_Mix : Int → Int → Int → Int → Int → Option Arr4_Int) (law12_awake : Option Bool) (sip_Hash : api_Key → (List UInt8) → Option Int) (sip_Mix : Int → Int → Int → Int → Int → Option Arr4_Int) (k : api_Key) (s : List UInt8) (a : Int) (b : Int) (rounds : Int) : Option Bool :=
  cond (decide ((s.length : Int) > 300))
    (
    (law12_awake).bind fun a1 =>
    some (a1))
    (
    (sip_Hash k s).bind fun xh =>
    (R12_Hash k s).bind fun xh1 =>
    cond (xh == xh1)
      (
      (sip_Mix a b k.A k.B rounds).bind fun m =>
      (R12_Mix a b k.A k.B rounds).bind fun m1 =>
      let t := (m.e0 == m1.e0) && ((m.e1 == m1.e1) && ((m.e2 == m1.e2) && ((m.e3 == m1.e3) && true)))
      cond (t)
        (
        (law12_awake).bind fun a2 =>
        some (a2))
        (
        some (false)))
      (
      some (false)))
def post9 (x : Bool) (v : Value) (H : Hp) : Prop := v = .bool x
def r9 (g : api_Key → (List UInt8) → Int → Int → Int → Option Bool) : List SArg → Option SRes
  | [.v (.agg ⟨[.int .u64 a0_1, .int .u64 a0_2]⟩), .v (.string ⟨⟨a1_1⟩⟩), .v (.int .u64 a2_1), .v (.int .u64 a3_1), .v (.int .i64 a4_1)] => match g (api_Key.mk a0_1 a0_2) a1_1 a2_1 a3_1 a4_1 with | some x => some ⟨.bool x, [], []⟩ | none => none
  | _ => none
def s9 (g : api_Key → (List UInt8) → Int → Int → Int → Option Bool) : Summ := ⟨[.v, .v, .v, .v, .v], r9 g⟩
theorem r9_eq {g : api_Key → (List UInt8) → Int → Int → Int → Option Bool} {a0_1 : Int} {a0_2 : Int} {a1_1 : List UInt8} {a2_1 : Int} {a3_1 : Int} {a4_1 : Int} {x : Bool} (hx : g (api_Key.mk a0_1 a0_2) a1_1 a2_1 a3_1 a4_1 = some x) : (s9 g).run [.v (.agg ⟨[.int .u64 a0_1, .int .u64 a0_2]⟩), .v (.string ⟨⟨a1_1⟩⟩), .v (.int .u64 a2_1), .v (.int .u64 a3_1), .v (.int .i64 a4_1)] = some ⟨.bool x, [], []⟩ := by
  show r9 g [.v (.agg ⟨[.int .u64 a0_1, .int .u64 a0_2]⟩), .v (.string ⟨⟨a1_1⟩⟩), .v (.int .u64 a2_1), .v (.int .u64 a3_1), .v (.int .i64 a4_1)] = _
  simp only [r9, hx]
abbrev sums9 (R12_Hash : api_Key → (List UInt8) → Option Int) (R12_Mix : Int → Int → Int → Int → Int → Option Arr4_Int) (law12_awake : Option Bool) (sip_Hash : api_Key → (List UInt8) → Option Int) (sip_Mix : Int → Int → Int → Int → Int → Option Arr4_Int) : List (Nat × Summ) := [(35, s35 R12_Hash), (37, s37 R12_Mix), (30, s30 law12_awake), (34, s34 sip_Hash), (36, s36 sip_Mix)]
theorem leads9 (R12_Hash : api_Key → (List UInt8) → Option Int) (R12_Mix : Int → Int → Int → Int → Int → Option Arr4_Int) (law12_awake : Option Bool) (sip_Hash : api_Key → (List UInt8) → Option Int) (sip_Mix : Int → Int → Int → Int → Int → Option Arr4_Int) (hS : SumsOK Try.prog (aget (sums9 R12_Hash R12_Mix law12_awake sip_Hash sip_Mix))) (k : api_Key) (s : List UInt8) (a : Int) (b : Int) (rounds : Int) (res : Bool) (h : law12_SipTellsF R12_Hash R12_Mix law12_awake sip_Hash sip_Mix k s a b rounds = some res) :
    Leads Try.prog 9 0 ⟨⟨9, 44, [(0, .agg ⟨[.int .u64 k.A, .int .u64 k.B]⟩), (1, .string ⟨⟨s⟩⟩), (2, .int .u64 a), (3, .int .u64 b), (4, .int .i64 rounds)], [.code k9_9], [], false, none⟩, [], [], 0⟩ (fun v H _ => post9 res v H) := by
  unfold law12_SipTellsF at h
  refine ev_ok tab_ok hS true 3000 ?_
  conv => whnf
  refine br.h h ?_ ?_ ?_
  · rfl
  · clear h; intro hb h; conv => whnf
    obtain ⟨a1, hy, h2⟩ := obind.elim h; clear h; have h := h2; clear h2
    refine sumK.introF [] (sumRun_of (aqs := []) ra_nil (r30_eq hy) rfl rfl rfl rfl) ?_
    conv => whnf
    all_goals (cases h)
    all_goals exact rfl
  clear h; intro hb h; conv => whnf
  obtain ⟨xh, hy, h2⟩ := obind.elim h; clear h; have h := h2; clear h2
  refine sumK.introF [] (sumRun_of (aqs := [.v (.agg ⟨[.int .u64 k.A, .int .u64 k.B]⟩), .v (.string ⟨⟨s⟩⟩)]) (ra_cons rfl (ra_cons rfl ra_nil)) (r34_eq hy) rfl rfl rfl rfl) ?_
  conv => whnf
  obtain ⟨xh1, hy, h2⟩ := obind.elim h; clear h; have h := h2; clear h2
  refine sumK.introF [] (sumRun_of (aqs := [.v (.agg ⟨[.int .u64 k.A, .int .u64 k.B]⟩), .v (.string ⟨⟨s⟩⟩)]) (ra_cons rfl (ra_cons rfl ra_nil)) (r35_eq hy) rfl rfl rfl rfl) ?_
  conv => whnf
  refine br.h2 h ?_ ?_ ?_
  · rfl
  · clear h; intro hb h; conv => whnf
    all_goals (cases h)
    all_goals exact rfl
  clear h; intro hb h; conv => whnf
  obtain ⟨m, hy, h2⟩ := obind.elim h; clear h; have h := h2; clear h2
  refine sumK.introF [] (sumRun_of (aqs := [.v (.int .u64 a), .v (.int .u64 b), .v (.int .u64 k.A), .v (.int .u64 k.B), .v (.int .i64 rounds)]) (ra_cons rfl (ra_cons rfl (ra_cons rfl (ra_cons rfl (ra_cons rfl ra_nil))))) (r36_eq hy) rfl rfl rfl rfl) ?_
  conv => whnf
  obtain ⟨m1, hy, h2⟩ := obind.elim h; clear h; have h := h2; clear h2
  refine sumK.introF [] (sumRun_of (aqs := [.v (.int .u64 a), .v (.int .u64 b), .v (.int .u64 k.A), .v (.int .u64 k.B), .v (.int .i64 rounds)]) (ra_cons rfl (ra_cons rfl (ra_cons rfl (ra_cons rfl (ra_cons rfl ra_nil))))) (r37_eq hy) rfl rfl rfl rfl) ?_
  conv => whnf
  let t : Bool := (m.e0 == m1.e0) && ((m.e1 == m1.e1) && ((m.e2 == m1.e2) && ((m.e3 == m1.e3) && true)))
  refine br.h2 h ?_ ?_ ?_
  · rfl
  · clear h; intro hb h; conv => whnf
    all_goals (cases h)
    all_goals exact rfl
  clear h; intro hb h; conv => whnf
  obtain ⟨a2, hy, h2⟩ := obind.elim h; clear h; have h := h2; clear h2
  refine sumK.introF [] (sumRun_of (aqs := []) ra_nil (r30_eq hy) rfl rfl rfl rfl) ?_
  conv => whnf
  all_goals (cases h)
  all_goals exact rfl
theorem ok9 (R12_Hash : api_Key → (List UInt8) → Option Int) (R12_Mix : Int → Int → Int → Int → Int → Option Arr4_Int) (law12_awake : Option Bool) (sip_Hash : api_Key → (List UInt8) → Option Int) (sip_Mix : Int → Int → Int → Int → Int → Option Arr4_Int) (hS : SumsOK Try.prog (aget (sums9 R12_Hash R12_Mix law12_awake sip_Hash sip_Mix))) : SumOK Try.prog 9 (s9 (law12_SipTellsF R12_Hash R12_Mix law12_awake sip_Hash sip_Mix)) := by
  refine SumOK.of_leads tab_ok (fun ar r ha hr => ?_) ⟨Try.f9, rfl, by decide, rfl⟩
  simp only [s9] at ha hr
  unfold r9 at hr
  split at hr <;> try (cases hr; done)
  split at hr <;> cases hr
  rename_i x h
  refine ⟨_, rfl, (leads9 R12_Hash R12_Mix law12_awake sip_Hash sip_Mix hS _ _ _ _ _ x h).mono fun v H t hp => ?_⟩
  cases hp
  exact Res.val rfl trivial
def law12_SipTells : api_Key → (List UInt8) → Int → Int → Int → Option Bool := law12_SipTellsF R12_Hash R12_Mix law12_awake sip_Hash sip_Mix
theorem lift9 : SumOK Try.prog 9 (s9 law12_SipTells) := ok9 R12_Hash R12_Mix law12_awake sip_Hash sip_Mix (SumsOK.of_tab ⟨lift35, lift37, lift30, lift34, lift36, trivial⟩)
end Go.Vm.Code

/- SipTells, in plain words. -/
namespace Go.Vm.Code
open Go Go.Vm
theorem sipTells (k : api_Key) (s : List UInt8) (a b n : Int) : law12_SipTells k s a b n = some true := by
  unfold law12_SipTells law12_SipTellsF
  rw [awake12]
  by_cases h : (s.length : Int) > 300
  · rw [cond_p h]; rfl
  rw [cond_n h, Hash_R (by omega), R12_Hash_eq (by omega), sipMix_eq, Mix_eq]
  simp only [Option.bind_some, beq_self_eq_true, cond_true, Bool.and_self]
end Go.Vm.Code
