import Derived.Test.YtnjmakblnjibkaaVmLift
import Derived.Test.YtnjmakblnjibkaaCodeA
/- Plain lemmas on the lifted functions' words. -/
namespace Go.Vm
open Go

/-! numbers of the machine -/
theorem wI64 {n : Int} (h1 : -9223372036854775808 ≤ n) (h2 : n < 9223372036854775808) : wI .i64 n = n := by
  show IntKind.wrap .i64 n = n; rw [IntKind.wrap_i64]; omega
theorem wU64 {n : Int} (h1 : 0 ≤ n) (h2 : n < 18446744073709551616) : wI .u64 n = n := by
  show IntKind.wrap .u64 n = n
  simp only [IntKind.wrap, IntKind.bits, IntKind.signed]; simp; omega
theorem wU32 {n : Int} (h1 : 0 ≤ n) (h2 : n < 4294967296) : wI .u32 n = n := by
  show IntKind.wrap .u32 n = n
  simp only [IntKind.wrap, IntKind.bits, IntKind.signed]; simp; omega
theorem wU16 {n : Int} (h1 : 0 ≤ n) (h2 : n < 65536) : wI .u16 n = n := by
  show IntKind.wrap .u16 n = n
  simp only [IntKind.wrap, IntKind.bits, IntKind.signed]; simp; omega
theorem wU8 {n : Int} (h1 : 0 ≤ n) (h2 : n < 256) : wI .u8 n = n := by
  show IntKind.wrap .u8 n = n
  simp only [IntKind.wrap, IntKind.bits, IntKind.signed]; simp; omega
theorem wU64m (n : Int) : wI .u64 n = n % 18446744073709551616 := by
  show IntKind.wrap .u64 n = _
  simp only [IntKind.wrap, IntKind.bits, IntKind.signed]; simp
theorem wU32m (n : Int) : wI .u32 n = n % 4294967296 := by
  show IntKind.wrap .u32 n = _
  simp only [IntKind.wrap, IntKind.bits, IntKind.signed]; simp
theorem wU16m (n : Int) : wI .u16 n = n % 65536 := by
  show IntKind.wrap .u16 n = _
  simp only [IntKind.wrap, IntKind.bits, IntKind.signed]; simp
theorem wU8m (n : Int) : wI .u8 n = n % 256 := by
  show IntKind.wrap .u8 n = _
  simp only [IntKind.wrap, IntKind.bits, IntKind.signed]; simp

theorem bv64 {n : Nat} (h : n < 18446744073709551616) : (BitVec.ofInt 64 (n : Int)).toNat = n := by
  rw [BitVec.toNat_ofInt]; omega
theorem andI64 {a b : Nat} (ha : a < 9223372036854775808) (hb : b < 9223372036854775808) : andI .i64 (a : Int) (b : Int) = ((a &&& b : Nat) : Int) := by
  have h : a &&& b ≤ a := Nat.and_le_left
  show IntKind.wrap .i64 _ = _
  rw [show IntKind.bits .i64 = 64 from rfl, BitVec.toNat_and, bv64 (by omega), bv64 (by omega)]
  exact wI64 (by omega) (by omega)
theorem iorI64 {a b : Nat} (ha : a < 9223372036854775808) (hb : b < 9223372036854775808) : iorI .i64 (a : Int) (b : Int) = ((a ||| b : Nat) : Int) := by
  have h : a ||| b < 2 ^ 63 := Nat.or_lt_two_pow (by omega) (by omega)
  show IntKind.wrap .i64 _ = _
  rw [show IntKind.bits .i64 = 64 from rfl, BitVec.toNat_or, bv64 (by omega), bv64 (by omega)]
  exact wI64 (by omega) (by omega)
theorem andU64 {a b : Nat} (ha : a < 18446744073709551616) (hb : b < 18446744073709551616) : andI .u64 (a : Int) (b : Int) = ((a &&& b : Nat) : Int) := by
  have h : a &&& b ≤ a := Nat.and_le_left
  show IntKind.wrap .u64 _ = _
  rw [show IntKind.bits .u64 = 64 from rfl, BitVec.toNat_and, bv64 (by omega), bv64 (by omega)]
  exact wU64 (by omega) (by omega)
theorem iorU64 {a b : Nat} (ha : a < 18446744073709551616) (hb : b < 18446744073709551616) : iorI .u64 (a : Int) (b : Int) = ((a ||| b : Nat) : Int) := by
  have h : a ||| b < 2 ^ 64 := Nat.or_lt_two_pow (by omega) (by omega)
  show IntKind.wrap .u64 _ = _
  rw [show IntKind.bits .u64 = 64 from rfl, BitVec.toNat_or, bv64 (by omega), bv64 (by omega)]
  exact wU64 (by omega) (by omega)
theorem ixorU64 {a b : Nat} (ha : a < 18446744073709551616) (hb : b < 18446744073709551616) : ixorI .u64 (a : Int) (b : Int) = ((a ^^^ b : Nat) : Int) := by
  have h : a ^^^ b < 2 ^ 64 := Nat.xor_lt_two_pow (by omega) (by omega)
  show IntKind.wrap .u64 _ = _
  rw [show IntKind.bits .u64 = 64 from rfl, BitVec.toNat_xor, bv64 (by omega), bv64 (by omega)]
  exact wU64 (by omega) (by omega)
theorem and_mask (a k : Nat) : a &&& (2 ^ k - 1) = a % 2 ^ k := Nat.and_two_pow_sub_one_eq_mod a k
theorem or_low {a b k : Nat} (hb : b < 2 ^ k) : (a * 2 ^ k) ||| b = a * 2 ^ k + b := by
  rw [Nat.mul_comm]; exact (Nat.two_pow_add_eq_or_of_lt hb a).symm
/-- a number's lowest bits -/
theorem andI64_mask (k : Nat) {a m : Int} (hm : m = 2 ^ k - 1) (hk : k ≤ 62) (h0 : 0 ≤ a) (h1 : a < 9223372036854775808) : andI .i64 a m = a % 2 ^ k := by
  obtain ⟨n, rfl⟩ := Int.eq_ofNat_of_zero_le h0
  have hp : 2 ^ k ≤ 2 ^ 62 := Nat.pow_le_pow_right (by decide) hk
  have hp1 : 1 ≤ 2 ^ k := Nat.one_le_two_pow
  have : m = ((2 ^ k - 1 : Nat) : Int) := by rw [hm]; push_cast [hp1]; rfl
  rw [this, andI64 (by omega) (by omega), and_mask]; push_cast; rfl
theorem andU64_mask (k : Nat) {a m : Int} (hm : m = 2 ^ k - 1) (hk : k ≤ 64) (h0 : 0 ≤ a) (h1 : a < 18446744073709551616) : andI .u64 a m = a % 2 ^ k := by
  obtain ⟨n, rfl⟩ := Int.eq_ofNat_of_zero_le h0
  have hp : 2 ^ k ≤ 2 ^ 64 := Nat.pow_le_pow_right (by decide) hk
  have hp1 : 1 ≤ 2 ^ k := Nat.one_le_two_pow
  have : m = ((2 ^ k - 1 : Nat) : Int) := by rw [hm]; push_cast [hp1]; rfl
  rw [this, andU64 (by omega) (by omega), and_mask]; push_cast; rfl
/-- two numbers whose bits lie apart -/
theorem iorI64_low (k : Nat) {a b : Int} (h0 : 0 ≤ a) (h1 : a * 2 ^ k < 9223372036854775808) (hb0 : 0 ≤ b) (hb : b < 2 ^ k) (hb1 : b < 9223372036854775808) : iorI .i64 (a * 2 ^ k) b = a * 2 ^ k + b := by
  obtain ⟨n, rfl⟩ := Int.eq_ofNat_of_zero_le h0
  obtain ⟨m, rfl⟩ := Int.eq_ofNat_of_zero_le hb0
  have e : ((n : Int) * 2 ^ k) = ((n * 2 ^ k : Nat) : Int) := by push_cast; rfl
  rw [e] at h1 ⊢
  rw [iorI64 (by omega) (by omega), or_low (by exact_mod_cast hb)]; push_cast; rfl
theorem iorU64_low (k : Nat) {a b : Int} (h0 : 0 ≤ a) (h1 : a * 2 ^ k < 18446744073709551616) (hb0 : 0 ≤ b) (hb : b < 2 ^ k) (hb1 : b < 18446744073709551616) : iorI .u64 (a * 2 ^ k) b = a * 2 ^ k + b := by
  obtain ⟨n, rfl⟩ := Int.eq_ofNat_of_zero_le h0
  obtain ⟨m, rfl⟩ := Int.eq_ofNat_of_zero_le hb0
  have e : ((n : Int) * 2 ^ k) = ((n * 2 ^ k : Nat) : Int) := by push_cast; rfl
  rw [e] at h1 ⊢
  rw [iorU64 (by omega) (by omega), or_low (by exact_mod_cast hb)]; push_cast; rfl
theorem fdivP (a : Int) (k : Nat) : a.fdiv (2 ^ k) = a / 2 ^ k := Int.fdiv_eq_ediv_of_nonneg a (Int.le_of_lt (Int.pow_pos (by decide)))

/-! steps -/
theorem oreq_p {α : Type} {p : Prop} [Decidable p] {x : Option α} (h : p) : oreq (decide p) x = x := oreq.mk (decide_eq_true h)
theorem cond_p {α : Type} {p : Prop} [Decidable p] {x y : α} (h : p) : cond (decide p) x y = x := by rw [decide_eq_true h, cond_true]
theorem cond_n {α : Type} {p : Prop} [Decidable p] {x y : α} (h : ¬ p) : cond (decide p) x y = y := by rw [decide_eq_false h, cond_false]
theorem cond_dec {α : Type} {p : Prop} [Decidable p] {x y : α} : cond (decide p) x y = if p then x else y := by
  by_cases h : p <;> simp [h]

/-! loops -/
theorem iter_eq {σ ρ : Type} {step : σ → Option (Sum σ ρ)} (F : σ → ρ) (P : σ → Prop) (μ : σ → Nat)
    (h : ∀ s, P s → step s = some (.inr (F s)) ∨ ∃ s', step s = some (.inl s') ∧ P s' ∧ μ s' < μ s ∧ F s' = F s) : ∀ n s, P s → μ s < n → iter step n s = some (F s)
  | 0, s, hp, hn => by omega
  | n + 1, s, hp, hn => by
    rw [iter]
    rcases h s hp with e | ⟨s', e, hp', hm, hf⟩
    · rw [e]
    · rw [e]; exact hf ▸ iter_eq F P μ h n s' hp' (by omega)
theorem FUEL_eq : FUEL = 18446744073709551616 := rfl
end Go.Vm

namespace Go.Vm.Code
open Go Go.Vm Go.Proofs
set_option maxRecDepth 100000
set_option maxHeartbeats 4000000
set_option linter.unusedVariables false

@[ext] structure quic_Head where
  Long : Bool
  Bits : Int
  Version : Int
  DCID : List UInt8
  SCID : List UInt8
  Rest : List UInt8
  deriving DecidableEq
@[ext] structure octet_Reader where
  s : List UInt8
  made : Bool
  bad : Bool
  deriving DecidableEq
@[ext] structure api_Cover where
  V6 : Bool
  Backend : Int
  Cookie : Int
  First : Bool
  Instance : Int
  deriving DecidableEq
@[ext] structure api_Layout where
  Wide : Bool
  Slot : Int
  Gen : Int
  deriving DecidableEq
@[ext] structure api_Key where
  A : Int
  B : Int
  deriving DecidableEq
@[ext] structure api_Addr where
  V6 : Bool
  Hi : Int
  Lo : Int
  deriving DecidableEq
@[ext] structure api_Tuple where
  Proto : Int
  Src : api_Addr
  Dst : api_Addr
  SPort : Int
  DPort : Int
  deriving DecidableEq
@[ext] structure cookie_layout where
  Layout : api_Layout
  deriving DecidableEq
@[ext] structure Arr4_Int where
  e0 : Int
  e1 : Int
  e2 : Int
  e3 : Int
  deriving DecidableEq
@[ext] structure sip_Hasher where
  made : Bool
  s : Arr4_Int
  last : Int
  count : Int
  deriving DecidableEq
end Go.Vm.Code

namespace Go.Vm.Code
open Go Go.Vm Go.Proofs
set_option maxRecDepth 100000
set_option maxHeartbeats 4000000
set_option linter.unusedVariables false

/-! cloakroom/check.fold -/
def check_fold_s1 (n1 : Int) : Option (Sum Int Int) :=
  cond (decide (n1 > 65535))
    (
    let t := wI .i64 ((andI .i64 n1 65535) + (n1.fdiv (2 ^ 16)))
    some (.inl t))
    (
    some (.inr (n1)))
def check_foldF (n : Int) : Option Int :=
  iter (fun st => check_fold_s1 st) FUEL n
def post138 (x : Int) (v : Value) (H : Hp) : Prop := v = .int .i64 x
def r138 (g : Int → Option Int) : List SArg → Option SRes
  | [.v (.int .i64 a0_1)] => match g a0_1 with | some x => some ⟨.int .i64 x, [], []⟩ | none => none
  | _ => none
def s138 (g : Int → Option Int) : Summ := ⟨[.v], r138 g⟩
theorem r138_eq {g : Int → Option Int} {a0_1 : Int} {x : Int} (hx : g a0_1 = some x) : (s138 g).run [.v (.int .i64 a0_1)] = some ⟨.int .i64 x, [], []⟩ := by
  show r138 g [.v (.int .i64 a0_1)] = _
  simp only [r138, hx]
abbrev sums138 : List (Nat × Summ) := []
def head138_1 (n1 : Int) : VM :=
  ⟨⟨138, 11, [(0, .int .i64 n1)], [.code k138_6, .inLoop k138_6, .inBlock 0, .code k138_10], [], false, none⟩, [], [], 0⟩
theorem loop138_1 (hS : SumsOK Try.prog (aget (sums138))) (res : Int) : ∀ fuel (st : Int) (o : Int), iter (fun st => check_fold_s1 st) fuel st = some o → (o = res) →
    Leads Try.prog 138 0 (head138_1 st) (fun v H _ => post138 res v H) := by
  intro fuel st o h hc
  refine iter_leads (head := fun st => head138_1 st) (C := fun o => (o = res)) ?_ fuel st o h hc
  clear h hc o st fuel
  intro n1 o h hc
  replace h : check_fold_s1 n1 = some o := h
  show Leads Try.prog 138 0 (head138_1 n1) (fun v H _ => post138 res v H)
  unfold check_fold_s1 at h
  refine ev_ok tab_ok hS true 3000 ?_
  conv => whnf
  refine br.h2 h ?_ ?_ ?_
  · rfl
  · clear h; intro hb h; conv => whnf
    all_goals (cases h; cases hc)
    all_goals exact rfl
  clear h; intro hb h; conv => whnf
  let t : Int := wI .i64 ((andI .i64 n1 65535) + (n1.fdiv (2 ^ 16)))
  cases h; simp only [Sum.elim_inl, Sum.elim_inr, head138_1] at hc
  refine Leads.re hc [] rfl ?_ ?_ <;> (repeat' first | exact trivial | refine ⟨⟨_, rfl, rfl⟩, ?_⟩ | refine ⟨⟨_, _, rfl, rfl, .rowF (vI_flat _ _) id⟩, ?_⟩ | refine ⟨⟨_, _, rfl, rfl, .rowF (vS_flat _) id⟩, ?_⟩ | refine ⟨⟨_, _, rfl, rfl, .rowF (vB_flat _) id⟩, ?_⟩ | refine ⟨⟨_, _, rfl, rfl, .cells rfl⟩, ?_⟩ | refine ⟨⟨_, _, rfl, rfl, .row rfl id⟩, ?_⟩ | refine ⟨⟨_, _, rfl, rfl, .cr rfl⟩, ?_⟩ | refine ⟨⟨_, _, rfl, rfl, .rc rfl⟩, ?_⟩ | refine ⟨⟨_, _, rfl, rfl, .marks⟩, ?_⟩ | refine ⟨⟨_, _, rfl, rfl, .siter _ _⟩, ?_⟩ | refine ⟨⟨_, _, rfl, rfl, .loop rfl rfl rfl rfl (by repeat' first | exact trivial | refine ⟨rfl, ?_⟩) rfl rfl rfl rfl⟩, ?_⟩)
theorem leads138 (hS : SumsOK Try.prog (aget (sums138))) (n : Int) (res : Int) (h : check_foldF n = some res) :
    Leads Try.prog 138 0 ⟨⟨138, 11, [(0, .int .i64 n)], [.code k138_12], [], false, none⟩, [], [], 0⟩ (fun v H _ => post138 res v H) := by
  unfold check_foldF at h
  refine ev_ok tab_ok hS true 3000 ?_
  conv => whnf
  have hl := loop138_1 hS res _ _ _ h rfl; simp only [head138_1] at hl
  refine Leads.re hl [] rfl ?_ ?_ <;> (repeat' first | exact trivial | refine ⟨⟨_, rfl, rfl⟩, ?_⟩ | refine ⟨⟨_, _, rfl, rfl, .rowF (vI_flat _ _) id⟩, ?_⟩ | refine ⟨⟨_, _, rfl, rfl, .rowF (vS_flat _) id⟩, ?_⟩ | refine ⟨⟨_, _, rfl, rfl, .rowF (vB_flat _) id⟩, ?_⟩ | refine ⟨⟨_, _, rfl, rfl, .cells rfl⟩, ?_⟩ | refine ⟨⟨_, _, rfl, rfl, .row rfl id⟩, ?_⟩ | refine ⟨⟨_, _, rfl, rfl, .cr rfl⟩, ?_⟩ | refine ⟨⟨_, _, rfl, rfl, .rc rfl⟩, ?_⟩ | refine ⟨⟨_, _, rfl, rfl, .marks⟩, ?_⟩ | refine ⟨⟨_, _, rfl, rfl, .siter _ _⟩, ?_⟩ | refine ⟨⟨_, _, rfl, rfl, .loop rfl rfl rfl rfl (by repeat' first | exact trivial | refine ⟨rfl, ?_⟩) rfl rfl rfl rfl⟩, ?_⟩)
theorem ok138 (hS : SumsOK Try.prog (aget (sums138))) : SumOK Try.prog 138 (s138 (check_foldF)) := by
  refine SumOK.of_leads tab_ok (fun ar r ha hr => ?_) ⟨Try.f138, rfl, by decide, rfl⟩
  simp only [s138] at ha hr
  unfold r138 at hr
  split at hr <;> try (cases hr; done)
  split at hr <;> cases hr
  rename_i x h
  refine ⟨_, rfl, (leads138 hS _ x h).mono fun v H t hp => ?_⟩
  cases hp
  exact Res.val rfl trivial
def check_fold : Int → Option Int := check_foldF
theorem lift138 : SumOK Try.prog 138 (s138 check_fold) := ok138 (SumsOK.of_tab trivial)
end Go.Vm.Code

namespace Go.Vm.Code
open Go Go.Vm Go.Proofs
set_option maxRecDepth 100000
set_option maxHeartbeats 4000000
set_option linter.unusedVariables false

/-! cloakroom/check.Sum -/
def check_Sum_s1 (check_fold : Int → Option Int) (s : List UInt8) (xat : Int) (n : Int) : Option (Sum (Int × Int) Int) :=
  cond (decide (xat < (s.length : Int)))
    (
    oreq (decide (0 ≤ xat)) <|
    (s[xat.toNat]?).bind fun (b : UInt8) =>
    let t := wI .i64 ((wI .i64 (b.toNat : Int)) * 2 ^ 8)
    let t1 := decide ((wI .i64 (xat + 1)) < (s.length : Int))
    cond (t1)
      (
      oreq (decide (0 ≤ (wI .i64 (xat + 1)))) <|
      (s[(wI .i64 (xat + 1)).toNat]?).bind fun (b1 : UInt8) =>
      let t2 := wI .i64 (n + (iorI .i64 t (wI .i64 (b1.toNat : Int))))
      (check_fold t2).bind fun f =>
      some (.inl (wI .i64 (xat + 2), f)))
      (
      (check_fold (wI .i64 (n + t))).bind fun f1 =>
      some (.inl (wI .i64 (xat + 2), f1))))
    (
    some (.inr (n)))
def check_SumF (check_fold : Int → Option Int) (s : List UInt8) : Option Int :=
  iter (fun st => check_Sum_s1 check_fold s st.1 st.2) FUEL (0, 0)
def post114 (x : Int) (v : Value) (H : Hp) : Prop := v = .int .i64 x
def r114 (g : (List UInt8) → Option Int) : List SArg → Option SRes
  | [.v (.string ⟨⟨a0_1⟩⟩)] => match g a0_1 with | some x => some ⟨.int .i64 x, [], []⟩ | none => none
  | _ => none
def s114 (g : (List UInt8) → Option Int) : Summ := ⟨[.v], r114 g⟩
theorem r114_eq {g : (List UInt8) → Option Int} {a0_1 : List UInt8} {x : Int} (hx : g a0_1 = some x) : (s114 g).run [.v (.string ⟨⟨a0_1⟩⟩)] = some ⟨.int .i64 x, [], []⟩ := by
  show r114 g [.v (.string ⟨⟨a0_1⟩⟩)] = _
  simp only [r114, hx]
abbrev sums114 (check_fold : Int → Option Int) : List (Nat × Summ) := [(138, s138 check_fold)]
def head114_1 (s : List UInt8) (xat : Int) (n : Int) : VM :=
  ⟨⟨150, 32, [(0, .func (.yield 3) #[] #[]), (1, .pointer (some ⟨1, 0, none⟩)), (3, .int .i64 xat)], [.code k150_17, .inLoop k150_17, .inBlock 0], [], false, none⟩, [⟨114, 13, [(3, .pointer (some ⟨0, 0, none⟩))], [.inRangeFunc 3, .inBlock 0, .code k114_10], [2], false, none⟩], [(0, .cells [.int .i64 n]), (1, .cells [.string ⟨⟨s⟩⟩]), (2, .marks), (3, .loop ⟨.ready, none, 114, 13, [(3, .pointer (some ⟨0, 0, none⟩))], [7], k114_3, k114_5, 2⟩)], 4⟩
theorem loop114_1 (check_fold : Int → Option Int) (hS : SumsOK Try.prog (aget (sums114 check_fold))) (s : List UInt8) (res : Int) : ∀ fuel (st : Int × Int) (o : Int), iter (fun st => check_Sum_s1 check_fold s st.1 st.2) fuel st = some o → (o = res) →
    Leads Try.prog 114 0 (head114_1 s st.1 st.2) (fun v H _ => post114 res v H) := by
  intro fuel st o h hc
  refine iter_leads (head := fun st => head114_1 s st.1 st.2) (C := fun o => (o = res)) ?_ fuel st o h hc
  clear h hc o st fuel
  intro st o h hc
  obtain ⟨xat, n⟩ := st
  replace h : check_Sum_s1 check_fold s xat n = some o := h
  show Leads Try.prog 114 0 (head114_1 s xat n) (fun v H _ => post114 res v H)
  unfold check_Sum_s1 at h
  refine ev_ok tab_ok hS true 3000 ?_
  conv => whnf
  refine br.h2 h ?_ ?_ ?_
  · rfl
  · clear h; intro hb h; conv => whnf
    all_goals (cases h; cases hc)
    all_goals exact rfl
  clear h; intro hb h; conv => whnf
  replace h := oreq.elim h; have hb := h.1; replace h := h.2
  first | (refine req.intro hb ?_; conv => whnf) | skip
  obtain ⟨b, hy, h2⟩ := obind.elim h; clear h; have h := h2; clear h2
  refine rdS.intro hy ?_
  conv => whnf
  let t : Int := wI .i64 ((wI .i64 (b.toNat : Int)) * 2 ^ 8)
  let t1 : Bool := decide ((wI .i64 (xat + 1)) < (s.length : Int))
  refine br.h2 h ?_ ?_ ?_
  · rfl
  · clear h; intro hb h; conv => whnf
    obtain ⟨f1, hy, h2⟩ := obind.elim h; clear h; have h := h2; clear h2
    refine sumK.introF [] (sumRun_of (aqs := [.v (.int .i64 (wI .i64 (n + t)))]) (ra_cons rfl ra_nil) (r138_eq hy) rfl rfl rfl rfl) ?_
    conv => whnf
    cases h; simp only [Sum.elim_inl, Sum.elim_inr, head114_1] at hc
    refine Leads.re hc [(0, 0), (1, 1), (2, 2), (3, 3)] rfl ?_ ?_ (hu := by repeat' first | exact trivial | refine ⟨⟨rfl, rfl, rfl, rfl, rfl, ?_, rfl, rfl⟩, ?_⟩ | refine ⟨⟨_, rfl, rfl⟩, ?_⟩) <;> (repeat' first | exact trivial | refine ⟨⟨_, rfl, rfl⟩, ?_⟩ | refine ⟨⟨_, _, rfl, rfl, .rowF (vI_flat _ _) id⟩, ?_⟩ | refine ⟨⟨_, _, rfl, rfl, .rowF (vS_flat _) id⟩, ?_⟩ | refine ⟨⟨_, _, rfl, rfl, .rowF (vB_flat _) id⟩, ?_⟩ | refine ⟨⟨_, _, rfl, rfl, .cells rfl⟩, ?_⟩ | refine ⟨⟨_, _, rfl, rfl, .row rfl id⟩, ?_⟩ | refine ⟨⟨_, _, rfl, rfl, .cr rfl⟩, ?_⟩ | refine ⟨⟨_, _, rfl, rfl, .rc rfl⟩, ?_⟩ | refine ⟨⟨_, _, rfl, rfl, .marks⟩, ?_⟩ | refine ⟨⟨_, _, rfl, rfl, .siter _ _⟩, ?_⟩ | refine ⟨⟨_, _, rfl, rfl, .loop rfl rfl rfl rfl (by repeat' first | exact trivial | refine ⟨rfl, ?_⟩) rfl rfl rfl rfl⟩, ?_⟩)
  clear h; intro hb h; conv => whnf
  replace h := oreq.elim h; have hb := h.1; replace h := h.2
  first | (refine req.intro hb ?_; conv => whnf) | skip
  obtain ⟨b1, hy, h2⟩ := obind.elim h; clear h; have h := h2; clear h2
  refine rdS.intro hy ?_
  conv => whnf
  let t2 : Int := wI .i64 (n + (iorI .i64 t (wI .i64 (b1.toNat : Int))))
  obtain ⟨f, hy, h2⟩ := obind.elim h; clear h; have h := h2; clear h2
  refine sumK.introF [] (sumRun_of (aqs := [.v (.int .i64 t2)]) (ra_cons rfl ra_nil) (r138_eq hy) rfl rfl rfl rfl) ?_
  conv => whnf
  cases h; simp only [Sum.elim_inl, Sum.elim_inr, head114_1] at hc
  refine Leads.re hc [(0, 0), (1, 1), (2, 2), (3, 3)] rfl ?_ ?_ (hu := by repeat' first | exact trivial | refine ⟨⟨rfl, rfl, rfl, rfl, rfl, ?_, rfl, rfl⟩, ?_⟩ | refine ⟨⟨_, rfl, rfl⟩, ?_⟩) <;> (repeat' first | exact trivial | refine ⟨⟨_, rfl, rfl⟩, ?_⟩ | refine ⟨⟨_, _, rfl, rfl, .rowF (vI_flat _ _) id⟩, ?_⟩ | refine ⟨⟨_, _, rfl, rfl, .rowF (vS_flat _) id⟩, ?_⟩ | refine ⟨⟨_, _, rfl, rfl, .rowF (vB_flat _) id⟩, ?_⟩ | refine ⟨⟨_, _, rfl, rfl, .cells rfl⟩, ?_⟩ | refine ⟨⟨_, _, rfl, rfl, .row rfl id⟩, ?_⟩ | refine ⟨⟨_, _, rfl, rfl, .cr rfl⟩, ?_⟩ | refine ⟨⟨_, _, rfl, rfl, .rc rfl⟩, ?_⟩ | refine ⟨⟨_, _, rfl, rfl, .marks⟩, ?_⟩ | refine ⟨⟨_, _, rfl, rfl, .siter _ _⟩, ?_⟩ | refine ⟨⟨_, _, rfl, rfl, .loop rfl rfl rfl rfl (by repeat' first | exact trivial | refine ⟨rfl, ?_⟩) rfl rfl rfl rfl⟩, ?_⟩)
theorem leads114 (check_fold : Int → Option Int) (hS : SumsOK Try.prog (aget (sums114 check_fold))) (s : List UInt8) (res : Int) (h : check_SumF check_fold s = some res) :
    Leads Try.prog 114 0 ⟨⟨114, 13, [(0, .string ⟨⟨s⟩⟩)], [.code k114_13], [], false, none⟩, [], [], 0⟩ (fun v H _ => post114 res v H) := by
  unfold check_SumF at h
  refine ev_ok tab_ok hS true 3000 ?_
  conv => whnf
  have hl := loop114_1 check_fold hS _ res _ _ _ h rfl; simp only [head114_1] at hl
  refine Leads.re hl [(0, 0), (1, 1), (2, 2), (3, 3)] rfl ?_ ?_ (hu := by repeat' first | exact trivial | refine ⟨⟨rfl, rfl, rfl, rfl, rfl, ?_, rfl, rfl⟩, ?_⟩ | refine ⟨⟨_, rfl, rfl⟩, ?_⟩) <;> (repeat' first | exact trivial | refine ⟨⟨_, rfl, rfl⟩, ?_⟩ | refine ⟨⟨_, _, rfl, rfl, .rowF (vI_flat _ _) id⟩, ?_⟩ | refine ⟨⟨_, _, rfl, rfl, .rowF (vS_flat _) id⟩, ?_⟩ | refine ⟨⟨_, _, rfl, rfl, .rowF (vB_flat _) id⟩, ?_⟩ | refine ⟨⟨_, _, rfl, rfl, .cells rfl⟩, ?_⟩ | refine ⟨⟨_, _, rfl, rfl, .row rfl id⟩, ?_⟩ | refine ⟨⟨_, _, rfl, rfl, .cr rfl⟩, ?_⟩ | refine ⟨⟨_, _, rfl, rfl, .rc rfl⟩, ?_⟩ | refine ⟨⟨_, _, rfl, rfl, .marks⟩, ?_⟩ | refine ⟨⟨_, _, rfl, rfl, .siter _ _⟩, ?_⟩ | refine ⟨⟨_, _, rfl, rfl, .loop rfl rfl rfl rfl (by repeat' first | exact trivial | refine ⟨rfl, ?_⟩) rfl rfl rfl rfl⟩, ?_⟩)
theorem ok114 (check_fold : Int → Option Int) (hS : SumsOK Try.prog (aget (sums114 check_fold))) : SumOK Try.prog 114 (s114 (check_SumF check_fold)) := by
  refine SumOK.of_leads tab_ok (fun ar r ha hr => ?_) ⟨Try.f114, rfl, by decide, rfl⟩
  simp only [s114] at ha hr
  unfold r114 at hr
  split at hr <;> try (cases hr; done)
  split at hr <;> cases hr
  rename_i x h
  refine ⟨_, rfl, (leads114 check_fold hS _ x h).mono fun v H t hp => ?_⟩
  cases hp
  exact Res.val rfl trivial
def check_Sum : (List UInt8) → Option Int := check_SumF check_fold
theorem lift114 : SumOK Try.prog 114 (s114 check_Sum) := ok114 check_fold (SumsOK.of_tab ⟨lift138, trivial⟩)
end Go.Vm.Code

/- The sums of chapter 3, in plain words. -/

namespace Go.Vm.Code
open Go Go.Vm

/-- words of two bytes, added -/
def wsum : List UInt8 → Nat
  | [] => 0
  | [b] => b.toNat * 256
  | b :: c :: l => b.toNat * 256 + c.toNat + wsum l
/-- a sum brought to 16 bits -/
def norm (n : Nat) : Nat := if n = 0 then 0 else (n - 1) % 65535 + 1
theorem norm_eq {n r : Nat} (h1 : r ≤ 65535) (h2 : r % 65535 = n % 65535) (h3 : r = 0 ↔ n = 0) : norm n = r := by unfold norm; split <;> omega
theorem norm_le (n : Nat) : norm n ≤ 65535 := by unfold norm; split <;> omega
theorem norm_mod (n : Nat) : norm n % 65535 = n % 65535 := by unfold norm; split <;> omega
theorem norm_zero (n : Nat) : norm n = 0 ↔ n = 0 := by unfold norm; split <;> omega
theorem norm_same {n : Nat} (h : n ≤ 65535) : norm n = n := norm_eq h rfl Iff.rfl
theorem norm_add (a b : Nat) : norm (norm a + b) = norm (a + b) :=
  (norm_eq (norm_le _) (by have h1 := norm_mod a; have h2 := norm_mod (norm a + b); omega) (by have h1 := norm_zero a; have h2 := norm_zero (norm a + b); omega)).symm

theorem fold_eq {n : Int} (h0 : 0 ≤ n) (h1 : n < 2 ^ 62) : check_fold n = some ((norm n.toNat : Nat) : Int) := by
  unfold check_fold check_foldF
  refine iter_eq (fun n => ((norm n.toNat : Nat) : Int)) (fun n => 0 ≤ n ∧ n < 2 ^ 62) (fun n => n.toNat) ?_ FUEL _ ⟨h0, h1⟩ (by rw [FUEL_eq]; omega)
  intro s ⟨a, b⟩
  unfold check_fold_s1
  by_cases hs : s > 65535
  · refine .inr ⟨s % 65536 + s / 65536, ?_, ⟨by omega, by omega⟩, by omega, ?_⟩
    · rw [cond_p hs, andI64_mask (m := 65535) 16 (by decide) (by decide) a (by omega), fdivP, wI64 (by omega) (by omega)]; rfl
    · have : norm (s % 65536 + s / 65536).toNat = norm s.toNat :=
        (norm_eq (norm_le _) (by have := norm_mod (s % 65536 + s / 65536).toNat; omega) (by have := norm_zero (s % 65536 + s / 65536).toNat; omega)).symm
      rw [this]
  · refine .inl ?_
    rw [cond_n hs]
    have := norm_same (n := s.toNat) (by omega)
    simp only [this]
    rw [Int.toNat_of_nonneg a]

theorem wsum_two {s : List UInt8} {i : Nat} (h : i + 1 < s.length) : wsum (s.drop i) = s[i].toNat * 256 + s[i + 1].toNat + wsum (s.drop (i + 2)) := by
  rw [List.drop_eq_getElem_cons (by omega : i < s.length), List.drop_eq_getElem_cons h]; rfl
theorem wsum_one {s : List UInt8} {i : Nat} (h : i + 1 = s.length) : wsum (s.drop i) = s[i].toNat * 256 := by
  rw [List.drop_eq_getElem_cons (by omega : i < s.length), List.drop_eq_nil_of_le (by omega)]; rfl
theorem wsum_none {s : List UInt8} {i : Nat} (h : s.length ≤ i) : wsum (s.drop i) = 0 := by
  rw [List.drop_eq_nil_of_le h]; rfl

theorem sum_eq (s : List UInt8) (h : s.length < 2 ^ 61) : check_Sum s = some ((norm (wsum s) : Nat) : Int) := by
  unfold check_Sum check_SumF
  have key := iter_eq (step := fun (st : Int × Int) => check_Sum_s1 check_fold s st.1 st.2) (fun (st : Int × Int) => ((norm (st.2.toNat + wsum (s.drop st.1.toNat)) : Nat) : Int)) (fun (st : Int × Int) => 0 ≤ st.1 ∧ st.1 ≤ s.length + 1 ∧ 0 ≤ st.2 ∧ st.2 ≤ 65535) (fun (st : Int × Int) => (s.length + 2 - st.1).toNat) ?_ FUEL (0, 0) ⟨by simp, by simp; omega, by simp, by simp⟩ (by rw [FUEL_eq]; simp only; omega)
  · rw [key]; simp
  rintro ⟨p, n⟩ ⟨h1, h2, h3, h4⟩
  simp only at h1 h2 h3 h4 ⊢
  obtain ⟨i, rfl⟩ := Int.eq_ofNat_of_zero_le h1
  obtain ⟨m, rfl⟩ := Int.eq_ofNat_of_zero_le h3
  unfold check_Sum_s1
  by_cases hp : i < s.length
  · by_cases hq : i + 1 < s.length
    · have b1 := s[i].toNat_lt
      have b2 := s[i + 1].toNat_lt
      refine .inr ⟨(((i + 2 : Nat) : Int), ((norm (m + (s[i].toNat * 256 + s[i + 1].toNat)) : Nat) : Int)), ?_, ⟨by simp only; omega, by simp only; omega, by simp only; omega, by simp only; have := norm_le (m + (s[i].toNat * 256 + s[i + 1].toNat)); omega⟩, by simp only; omega, ?_⟩
      · simp (disch := omega) only [wI64, oreq_p, cond_p]
        have e : ((i : Int) + 1).toNat = i + 1 := by omega
        rw [e]
        simp (disch := omega) only [Int.toNat_natCast, List.getElem?_eq_getElem, Option.bind_some, iorI64_low, wI64, fold_eq]
        congr 3 <;> omega
      · simp only [Int.toNat_natCast]
        rw [norm_add, wsum_two hq, Nat.add_assoc]
    · have b1 := s[i].toNat_lt
      refine .inr ⟨(((i + 2 : Nat) : Int), ((norm (m + s[i].toNat * 256) : Nat) : Int)), ?_, ⟨by simp only; omega, by simp only; omega, by simp only; omega, by simp only; have := norm_le (m + s[i].toNat * 256); omega⟩, by simp only; omega, ?_⟩
      · simp (disch := omega) only [wI64, oreq_p, cond_p, cond_n, Int.toNat_natCast, List.getElem?_eq_getElem, Option.bind_some, fold_eq]
        congr 3 <;> omega
      · simp only [Int.toNat_natCast]
        rw [norm_add, wsum_none (i := i + 2) (by omega), Nat.add_zero, wsum_one (i := i) (by omega)]
  · refine .inl ?_
    simp (disch := omega) only [cond_n]
    simp only [Int.toNat_natCast]
    rw [wsum_none (by omega), Nat.add_zero, norm_same (by omega)]
theorem wsum_append : ∀ (a b : List UInt8), a.length % 2 = 0 → wsum (a ++ b) = wsum a + wsum b
  | [], b, _ => by simp [wsum]
  | [_], b, h => by simp at h
  | x :: y :: a, b, h => by
    have := wsum_append a b (by simp at h; omega)
    simp only [List.cons_append, wsum, this]; omega
/-- are all bytes 0? -/
def allz (l : List UInt8) : Bool := l.all fun b => b == 0
theorem wsum_zero : ∀ a : List UInt8, a.length % 2 = 0 → (wsum a = 0 ↔ allz a = true)
  | [], _ => by simp [wsum, allz]
  | [_], h => by simp at h
  | x :: y :: a, h => by
    have h1 := wsum_zero a (by simp at h; omega)
    have ex : (x == 0) = true ↔ x.toNat = 0 := by rw [beq_iff_eq]; exact ⟨fun e => by rw [e]; rfl, fun e => UInt8.toNat_inj.1 e⟩
    have ey : (y == 0) = true ↔ y.toNat = 0 := by rw [beq_iff_eq]; exact ⟨fun e => by rw [e]; rfl, fun e => UInt8.toNat_inj.1 e⟩
    have e : allz (x :: y :: a) = (x == 0 && (y == 0 && allz a)) := rfl
    rw [e, Bool.and_eq_true, Bool.and_eq_true, ex, ey, ← h1, wsum]
    omega
theorem take1 {l : List UInt8} {i : Nat} (h : i < l.length) : (l.drop i).take 1 = [l[i]] := by
  rw [List.drop_eq_getElem_cons h]; rfl
theorem take2 {l : List UInt8} {i : Nat} (h : i + 1 < l.length) : l.take (i + 2) = l.take i ++ [l[i], l[i + 1]] := by
  have e1 := List.take_succ_eq_append_getElem h
  have e2 := List.take_succ_eq_append_getElem (show i < l.length by omega)
  rw [show i + 2 = (i + 1) + 1 from rfl, e1, e2, List.append_assoc]; rfl
theorem bz (b : UInt8) : ((b.toNat : Int) == 0) = (b == 0) := by
  by_cases h : b = 0
  · subst h; rfl
  · have : b.toNat ≠ 0 := fun e => h (UInt8.toNat_inj.1 e)
    rw [beq_eq_false_iff_ne.2 h]; simp; exact this

end Go.Vm.Code

/- Numbers as bytes, the highest one first: plain Lean, no program. -/
namespace Go.Vm
open Go

/-- the lowest bytes of a number, the highest one first -/
def be (n : Nat) : Nat → List UInt8
  | 0 => []
  | r + 1 => UInt8.ofNat (n / 256 ^ r) :: be n r
/-- the number of bytes -/
def valL (l : List UInt8) : Nat := l.foldl (fun n b => n * 256 + b.toNat) 0

@[simp] theorem be_len (n : Nat) : ∀ k, (be n k).length = k
  | 0 => rfl
  | k + 1 => by simp [be, be_len n k]
theorem be_snoc (n : Nat) : ∀ k, be n (k + 1) = be (n / 256) k ++ [UInt8.ofNat n]
  | 0 => by simp [be]
  | k + 1 => by
    rw [be, be_snoc n k, be, Nat.div_div_eq_div_mul, Nat.pow_succ, Nat.mul_comm 256]; rfl
theorem be_mod (n : Nat) : ∀ k, be (n % 256 ^ k) k = be n k
  | 0 => rfl
  | k + 1 => by
    rw [be_snoc, be_snoc, Nat.pow_succ, Nat.mul_comm, Nat.mod_mul_right_div_self, be_mod (n / 256) k]
    congr 2
    apply UInt8.toNat_inj.1
    simp only [UInt8.toNat_ofNat']
    rw [Nat.mod_mul_right_mod]
theorem val_foldl (l : List UInt8) : ∀ n : Nat, l.foldl (fun n b => n * 256 + b.toNat) n = n * 256 ^ l.length + valL l := by
  induction l with
  | nil => intro n; simp [valL]
  | cons b l ih =>
    intro n
    rw [valL, List.foldl_cons, ih, List.foldl_cons, ih, List.length_cons, Nat.pow_succ]
    rw [Nat.zero_mul, Nat.zero_add, Nat.add_mul, Nat.mul_assoc, Nat.mul_comm (256 ^ _) 256, Nat.add_assoc]
@[simp] theorem val_nil : valL [] = 0 := rfl
theorem val_cons (b : UInt8) (l : List UInt8) : valL (b :: l) = b.toNat * 256 ^ l.length + valL l := by
  rw [valL, List.foldl_cons, val_foldl]; simp
theorem val_append (l m : List UInt8) : valL (l ++ m) = valL l * 256 ^ m.length + valL m := by
  rw [valL, List.foldl_append, val_foldl]; rfl
theorem val_snoc (l : List UInt8) (b : UInt8) : valL (l ++ [b]) = valL l * 256 + b.toNat := by
  rw [val_append]; simp [val_cons]
theorem val_lt : ∀ l : List UInt8, valL l < 256 ^ l.length
  | [] => by simp
  | b :: l => by
    have h := val_lt l
    have hb := b.toNat_lt
    rw [val_cons, List.length_cons, Nat.pow_succ]
    have : b.toNat * 256 ^ l.length + 256 ^ l.length ≤ 256 * 256 ^ l.length := by
      rw [← Nat.succ_mul]; exact Nat.mul_le_mul_right _ (by omega)
    rw [Nat.mul_comm (256 ^ l.length)]; omega
theorem val_be (n : Nat) : ∀ k, valL (be n k) = n % 256 ^ k
  | 0 => by simp [be, Nat.mod_one]
  | k + 1 => by
    have e : n % 256 ^ (k + 1) = n % 256 + 256 * (n / 256 % 256 ^ k) := by rw [Nat.pow_succ', Nat.mod_mul]
    rw [be_snoc, val_snoc, val_be (n / 256) k, UInt8.toNat_ofNat', e]
    generalize n / 256 % 256 ^ k = x
    omega
theorem val_be_lt {n k : Nat} (h : n < 256 ^ k) : valL (be n k) = n := by rw [val_be, Nat.mod_eq_of_lt h]
theorem be_val : ∀ l : List UInt8, be (valL l) l.length = l
  | [] => rfl
  | b :: l => by
    have h := val_lt l
    rw [List.length_cons, be]
    have e1 : valL (b :: l) / 256 ^ l.length = b.toNat := by
      rw [val_cons, Nat.mul_comm, Nat.mul_add_div (Nat.pow_pos (by decide)), Nat.div_eq_of_lt h, Nat.add_zero]
    have e2 : be (valL (b :: l)) l.length = be (valL l) l.length := by
      rw [← be_mod (valL (b :: l)), val_cons, Nat.mul_add_mod', be_mod]
    rw [e1, e2, be_val l]
    simp
theorem be_inj {n m k : Nat} (hn : n < 256 ^ k) (hm : m < 256 ^ k) (h : be n k = be m k) : n = m := by
  rw [← val_be_lt hn, ← val_be_lt hm, h]
theorem be_val' {l : List UInt8} {k : Nat} (h : l.length = k) : be (valL l) k = l := by subst h; exact be_val l
theorem be_of {l : List UInt8} {n k : Nat} (h : l.length = k) (hv : valL l = n) : be n k = l := by subst hv; exact be_val' h
theorem val_take_lt {l : List UInt8} {k : Nat} (n : Nat) (h : 256 ^ k ≤ n) : valL (l.take k) < n := by
  have h1 := val_lt (l.take k)
  have h2 : (l.take k).length ≤ k := List.length_take_le _ _
  exact Nat.lt_of_lt_of_le h1 (Nat.le_trans (Nat.pow_le_pow_right (by decide) h2) h)
theorem be_split (n : Nat) (j : Nat) : ∀ k, be n (j + k) = be (n / 256 ^ k) j ++ be n k
  | 0 => by simp [be]
  | k + 1 => by
    rw [show j + (k + 1) = (j + k) + 1 from rfl, be_snoc, be_split (n / 256) j k, be_snoc n k, Nat.div_div_eq_div_mul, Nat.pow_succ, Nat.mul_comm (256 ^ k), List.append_assoc]
end Go.Vm

namespace Go.Vm.Code
open Go Go.Vm Go.Proofs
set_option maxRecDepth 100000
set_option maxHeartbeats 4000000
set_option linter.unusedVariables false

/-! cloakroom/octet.Put -/
def octet_Put_s1 (n : Int) (k : Int) (t17 : Int) (b : List Int) : Option (Sum (Int × (List Int)) (List UInt8)) :=
  cond (decide (t17 < (k.toNat : Int)))
    (
    let t := wI .i64 (8 * (wI .i64 ((wI .i64 (k - 1)) - t17)))
    oreq (decide (0 ≤ t)) <|
    oreq (decide ((0 : Int) ≤ t17 ∧ t17 < (k.toNat : Int))) <|
    oreq (decide (t17.toNat < b.length)) <|
    let row := b.set t17.toNat (wI .u8 (n.fdiv (2 ^ (min t.toNat 64))))
    some (.inl (wI .i64 (t17 + 1), row)))
    (
    oreq (decide (k.toNat ≤ b.length)) <|
    some (.inr (iB (b.take k.toNat))))
def octet_PutF (n : Int) (k : Int) : Option (List UInt8) :=
  cond (decide (k < 1))
    (
    some ([]))
    (
    cond (decide (k > 8))
      (
      some ([]))
      (
      oreq (decide (0 ≤ k ∧ k ≤ k ∧ k < 2 ^ 63 ∧ (1 : Int) * k ≤ 2 ^ 48)) <|
      iter (fun st => octet_Put_s1 n k st.1 st.2) FUEL (0, List.replicate k.toNat 0)))
def post63 (x : List UInt8) (v : Value) (H : Hp) : Prop := v = .string ⟨⟨x⟩⟩
def r63 (g : Int → Int → Option (List UInt8)) : List SArg → Option SRes
  | [.v (.int .u64 a0_1), .v (.int .i64 a1_1)] => match g a0_1 a1_1 with | some x => some ⟨.string ⟨⟨x⟩⟩, [], []⟩ | none => none
  | _ => none
def s63 (g : Int → Int → Option (List UInt8)) : Summ := ⟨[.v, .v], r63 g⟩
theorem r63_eq {g : Int → Int → Option (List UInt8)} {a0_1 : Int} {a1_1 : Int} {x : List UInt8} (hx : g a0_1 a1_1 = some x) : (s63 g).run [.v (.int .u64 a0_1), .v (.int .i64 a1_1)] = some ⟨.string ⟨⟨x⟩⟩, [], []⟩ := by
  show r63 g [.v (.int .u64 a0_1), .v (.int .i64 a1_1)] = _
  simp only [r63, hx]
abbrev sums63 : List (Nat × Summ) := []
def head63_1 (n : Int) (k : Int) (t17 : Int) (b : List Int) : VM :=
  ⟨⟨63, 34, [(0, .int .u64 n), (1, .int .i64 k), (5, .slice (some ⟨0, 0, none⟩) k.toNat 1), (16, .int .i64 (k.toNat : Int)), (17, .int .i64 t17)], [.code k63_17, .inLoop k63_17, .inBlock 0, .code k63_22], [], false, none⟩, [], [(0, .row true (vI .u8 b))], 1⟩
theorem loop63_1 (hS : SumsOK Try.prog (aget (sums63))) (n : Int) (k : Int) (res : List UInt8) : ∀ fuel (st : Int × (List Int)) (o : List UInt8), iter (fun st => octet_Put_s1 n k st.1 st.2) fuel st = some o → (o = res) →
    Leads Try.prog 63 0 (head63_1 n k st.1 st.2) (fun v H _ => post63 res v H) := by
  intro fuel st o h hc
  refine iter_leads (head := fun st => head63_1 n k st.1 st.2) (C := fun o => (o = res)) ?_ fuel st o h hc
  clear h hc o st fuel
  intro st o h hc
  obtain ⟨t17, b⟩ := st
  replace h : octet_Put_s1 n k t17 b = some o := h
  show Leads Try.prog 63 0 (head63_1 n k t17 b) (fun v H _ => post63 res v H)
  unfold octet_Put_s1 at h
  refine ev_ok tab_ok hS true 3000 ?_
  conv => whnf
  refine br.h2 h ?_ ?_ ?_
  · rfl
  · clear h; intro hb h; conv => whnf
    replace h := oreq.elim h; have hb := h.1; replace h := h.2
    refine req.intro (by (first | rfl | (simp [vI, vB, vS, bI, oneC, addrBlk, cellsL, Value.cells] at *; omega) | (simp [vI, vB, vS, bI, oneC, addrBlk, cellsL, Value.cells] at *; done))) ?_
    conv => whnf
    refine pk_b2s ?_
    conv => whnf
    all_goals (cases h; cases hc)
    all_goals exact rfl
  clear h; intro hb h; conv => whnf
  let t : Int := wI .i64 (8 * (wI .i64 ((wI .i64 (k - 1)) - t17)))
  replace h := oreq.elim h; have hb := h.1; replace h := h.2
  first | (refine req.intro hb ?_; conv => whnf) | skip
  replace h := oreq.elim h; have hb := h.1; replace h := h.2
  first | (refine req.intro hb ?_; conv => whnf) | skip
  replace h := oreq.elim h; have hb := h.1; replace h := h.2
  refine st_I hb (by first | rfl | (rw [Nat.zero_add, Nat.mul_one]; done) | omega) ?_
  conv => whnf
  let row : List Int := b.set t17.toNat (wI .u8 (n.fdiv (2 ^ (min t.toNat 64))))
  cases h; simp only [Sum.elim_inl, Sum.elim_inr, head63_1] at hc
  refine Leads.re hc [(0, 0)] rfl ?_ ?_ <;> (repeat' first | exact trivial | refine ⟨⟨_, rfl, rfl⟩, ?_⟩ | refine ⟨⟨_, _, rfl, rfl, .rowF (vI_flat _ _) id⟩, ?_⟩ | refine ⟨⟨_, _, rfl, rfl, .rowF (vS_flat _) id⟩, ?_⟩ | refine ⟨⟨_, _, rfl, rfl, .rowF (vB_flat _) id⟩, ?_⟩ | refine ⟨⟨_, _, rfl, rfl, .cells rfl⟩, ?_⟩ | refine ⟨⟨_, _, rfl, rfl, .row rfl id⟩, ?_⟩ | refine ⟨⟨_, _, rfl, rfl, .cr rfl⟩, ?_⟩ | refine ⟨⟨_, _, rfl, rfl, .rc rfl⟩, ?_⟩ | refine ⟨⟨_, _, rfl, rfl, .marks⟩, ?_⟩ | refine ⟨⟨_, _, rfl, rfl, .siter _ _⟩, ?_⟩ | refine ⟨⟨_, _, rfl, rfl, .loop rfl rfl rfl rfl (by repeat' first | exact trivial | refine ⟨rfl, ?_⟩) rfl rfl rfl rfl⟩, ?_⟩)
theorem leads63 (hS : SumsOK Try.prog (aget (sums63))) (n : Int) (k : Int) (res : List UInt8) (h : octet_PutF n k = some res) :
    Leads Try.prog 63 0 ⟨⟨63, 34, [(0, .int .u64 n), (1, .int .i64 k)], [.code k63_26], [], false, none⟩, [], [], 0⟩ (fun v H _ => post63 res v H) := by
  unfold octet_PutF at h
  refine ev_ok tab_ok hS true 3000 ?_
  conv => whnf
  refine br.h h ?_ ?_ ?_
  · rfl
  · clear h; intro hb h; conv => whnf
    all_goals (cases h)
    all_goals exact rfl
  clear h; intro hb h; conv => whnf
  refine br.h h ?_ ?_ ?_
  · rfl
  · clear h; intro hb h; conv => whnf
    all_goals (cases h)
    all_goals exact rfl
  clear h; intro hb h; conv => whnf
  replace h := oreq.elim h; have hb := h.1; replace h := h.2
  first | (refine req.intro hb ?_; conv => whnf) | skip
  refine pk_mkI ?_
  conv => whnf
  have hl := loop63_1 hS _ _ res _ _ _ h rfl; simp only [head63_1] at hl
  refine Leads.re hl [(0, 0)] rfl ?_ ?_ <;> (repeat' first | exact trivial | refine ⟨⟨_, rfl, rfl⟩, ?_⟩ | refine ⟨⟨_, _, rfl, rfl, .rowF (vI_flat _ _) id⟩, ?_⟩ | refine ⟨⟨_, _, rfl, rfl, .rowF (vS_flat _) id⟩, ?_⟩ | refine ⟨⟨_, _, rfl, rfl, .rowF (vB_flat _) id⟩, ?_⟩ | refine ⟨⟨_, _, rfl, rfl, .cells rfl⟩, ?_⟩ | refine ⟨⟨_, _, rfl, rfl, .row rfl id⟩, ?_⟩ | refine ⟨⟨_, _, rfl, rfl, .cr rfl⟩, ?_⟩ | refine ⟨⟨_, _, rfl, rfl, .rc rfl⟩, ?_⟩ | refine ⟨⟨_, _, rfl, rfl, .marks⟩, ?_⟩ | refine ⟨⟨_, _, rfl, rfl, .siter _ _⟩, ?_⟩ | refine ⟨⟨_, _, rfl, rfl, .loop rfl rfl rfl rfl (by repeat' first | exact trivial | refine ⟨rfl, ?_⟩) rfl rfl rfl rfl⟩, ?_⟩)
theorem ok63 (hS : SumsOK Try.prog (aget (sums63))) : SumOK Try.prog 63 (s63 (octet_PutF)) := by
  refine SumOK.of_leads tab_ok (fun ar r ha hr => ?_) ⟨Try.f63, rfl, by decide, rfl⟩
  simp only [s63] at ha hr
  unfold r63 at hr
  split at hr <;> try (cases hr; done)
  split at hr <;> cases hr
  rename_i x h
  refine ⟨_, rfl, (leads63 hS _ _ x h).mono fun v H t hp => ?_⟩
  cases hp
  exact Res.val rfl trivial
def octet_Put : Int → Int → Option (List UInt8) := octet_PutF
theorem lift63 : SumOK Try.prog 63 (s63 octet_Put) := ok63 (SumsOK.of_tab trivial)
end Go.Vm.Code

namespace Go.Vm.Code
open Go Go.Vm Go.Proofs
set_option maxRecDepth 100000
set_option maxHeartbeats 4000000
set_option linter.unusedVariables false

/-! cloakroom/octet.Get -/
def octet_Get_s1 (t1 : List UInt8) (n : Int) (t37 : Int) : Option (Sum (Int × Int) (Int × Bool)) :=
  cond (decide (t37 < (t1.length : Int)))
    (
    oreq (decide ((0 : Int) ≤ t37 ∧ t37 < (t1.length : Int))) <|
    ((bI t1)[t37.toNat]?).bind fun (e : Int) =>
    let t2 := iorI .u64 (wI .u64 (n * 2 ^ 8)) (wI .u64 e)
    some (.inl (t2, wI .i64 (t37 + 1))))
    (
    some (.inr ((n, true))))
def octet_GetF (s : List UInt8) (ata1 : Int) (k : Int) : Option (Int × Bool) :=
  cond (decide (k < 1))
    (
    some ((0, false)))
    (
    cond (decide (k > 8))
      (
      some ((0, false)))
      (
      cond (decide (ata1 < 0))
        (
        some ((0, false)))
        (
        let t := decide ((wI .i64 ((s.length : Int) - k)) < ata1)
        cond (t)
          (
          some ((0, false)))
          (
          oreq (decide ((0 : Int) ≤ (wI .i64 (ata1 + k)) ∧ (wI .i64 (ata1 + k)) ≤ (s.length : Int) ∧ (0 : Int) ≤ ata1 ∧ ata1 ≤ ((wI .i64 (ata1 + k)).toNat : Int))) <|
          let t1 := (s.drop ata1.toNat).take ((wI .i64 (ata1 + k)).toNat - ata1.toNat)
          iter (fun st => octet_Get_s1 t1 st.1 st.2) FUEL (0, 0)))))
def post59 (x : Int × Bool) (v : Value) (H : Hp) : Prop := v = .tuple ⟨[.int .u64 x.1, .bool x.2]⟩
def r59 (g : (List UInt8) → Int → Int → Option (Int × Bool)) : List SArg → Option SRes
  | [.v (.string ⟨⟨a0_1⟩⟩), .v (.int .i64 a1_1), .v (.int .i64 a2_1)] => match g a0_1 a1_1 a2_1 with | some x => some ⟨.tuple ⟨[.int .u64 x.1, .bool x.2]⟩, [], []⟩ | none => none
  | _ => none
def s59 (g : (List UInt8) → Int → Int → Option (Int × Bool)) : Summ := ⟨[.v, .v, .v], r59 g⟩
theorem r59_eq {g : (List UInt8) → Int → Int → Option (Int × Bool)} {a0_1 : List UInt8} {a1_1 : Int} {a2_1 : Int} {x : Int × Bool} (hx : g a0_1 a1_1 a2_1 = some x) : (s59 g).run [.v (.string ⟨⟨a0_1⟩⟩), .v (.int .i64 a1_1), .v (.int .i64 a2_1)] = some ⟨.tuple ⟨[.int .u64 x.1, .bool x.2]⟩, [], []⟩ := by
  show r59 g [.v (.string ⟨⟨a0_1⟩⟩), .v (.int .i64 a1_1), .v (.int .i64 a2_1)] = _
  simp only [r59, hx]
abbrev sums59 : List (Nat × Summ) := []
def head59_1 (t1 : List UInt8) (n : Int) (t37 : Int) : VM :=
  ⟨⟨59, 48, [(8, .int .u64 n), (35, .slice (some ⟨0, 0, none⟩) t1.length 1), (36, .int .i64 (t1.length : Int)), (37, .int .i64 t37)], [.code k59_17, .inLoop k59_17, .inBlock 0, .code k59_22], [], false, none⟩, [], [(0, .row true (vI .u8 (bI t1)))], 1⟩
theorem loop59_1 (hS : SumsOK Try.prog (aget (sums59))) (t1 : List UInt8) (res : Int × Bool) : ∀ fuel (st : Int × Int) (o : Int × Bool), iter (fun st => octet_Get_s1 t1 st.1 st.2) fuel st = some o → (o = res) →
    Leads Try.prog 59 0 (head59_1 t1 st.1 st.2) (fun v H _ => post59 res v H) := by
  intro fuel st o h hc
  refine iter_leads (head := fun st => head59_1 t1 st.1 st.2) (C := fun o => (o = res)) ?_ fuel st o h hc
  clear h hc o st fuel
  intro st o h hc
  obtain ⟨n, t37⟩ := st
  replace h : octet_Get_s1 t1 n t37 = some o := h
  show Leads Try.prog 59 0 (head59_1 t1 n t37) (fun v H _ => post59 res v H)
  unfold octet_Get_s1 at h
  refine ev_ok tab_ok hS true 3000 ?_
  conv => whnf
  refine br.h2 h ?_ ?_ ?_
  · rfl
  · clear h; intro hb h; conv => whnf
    all_goals (cases h; cases hc)
    all_goals exact rfl
  clear h; intro hb h; conv => whnf
  replace h := oreq.elim h; have hb := h.1; replace h := h.2
  first | (refine req.intro hb ?_; conv => whnf) | skip
  obtain ⟨e, hy, h2⟩ := obind.elim h; clear h; have h := h2; clear h2
  refine rd.I hy (by first | rfl | (rw [Nat.zero_add, Nat.mul_one]; done) | omega) ?_
  conv => whnf
  let t2 : Int := iorI .u64 (wI .u64 (n * 2 ^ 8)) (wI .u64 e)
  cases h; simp only [Sum.elim_inl, Sum.elim_inr, head59_1] at hc
  refine Leads.re hc [(0, 0)] rfl ?_ ?_ <;> (repeat' first | exact trivial | refine ⟨⟨_, rfl, rfl⟩, ?_⟩ | refine ⟨⟨_, _, rfl, rfl, .rowF (vI_flat _ _) id⟩, ?_⟩ | refine ⟨⟨_, _, rfl, rfl, .rowF (vS_flat _) id⟩, ?_⟩ | refine ⟨⟨_, _, rfl, rfl, .rowF (vB_flat _) id⟩, ?_⟩ | refine ⟨⟨_, _, rfl, rfl, .cells rfl⟩, ?_⟩ | refine ⟨⟨_, _, rfl, rfl, .row rfl id⟩, ?_⟩ | refine ⟨⟨_, _, rfl, rfl, .cr rfl⟩, ?_⟩ | refine ⟨⟨_, _, rfl, rfl, .rc rfl⟩, ?_⟩ | refine ⟨⟨_, _, rfl, rfl, .marks⟩, ?_⟩ | refine ⟨⟨_, _, rfl, rfl, .siter _ _⟩, ?_⟩ | refine ⟨⟨_, _, rfl, rfl, .loop rfl rfl rfl rfl (by repeat' first | exact trivial | refine ⟨rfl, ?_⟩) rfl rfl rfl rfl⟩, ?_⟩)
theorem leads59 (hS : SumsOK Try.prog (aget (sums59))) (s : List UInt8) (ata1 : Int) (k : Int) (res : Int × Bool) (h : octet_GetF s ata1 k = some res) :
    Leads Try.prog 59 0 ⟨⟨59, 48, [(0, .string ⟨⟨s⟩⟩), (1, .int .i64 ata1), (2, .int .i64 k)], [.code k59_26], [], false, none⟩, [], [], 0⟩ (fun v H _ => post59 res v H) := by
  unfold octet_GetF at h
  refine ev_ok tab_ok hS true 3000 ?_
  conv => whnf
  refine br.h h ?_ ?_ ?_
  · rfl
  · clear h; intro hb h; conv => whnf
    all_goals (cases h)
    all_goals exact rfl
  clear h; intro hb h; conv => whnf
  refine br.h h ?_ ?_ ?_
  · rfl
  · clear h; intro hb h; conv => whnf
    all_goals (cases h)
    all_goals exact rfl
  clear h; intro hb h; conv => whnf
  refine br.h h ?_ ?_ ?_
  · rfl
  · clear h; intro hb h; conv => whnf
    all_goals (cases h)
    all_goals exact rfl
  clear h; intro hb h; conv => whnf
  let t : Bool := decide ((wI .i64 ((s.length : Int) - k)) < ata1)
  refine br.h h ?_ ?_ ?_
  · rfl
  · clear h; intro hb h; conv => whnf
    all_goals (cases h)
    all_goals exact rfl
  clear h; intro hb h; conv => whnf
  replace h := oreq.elim h; have hb := h.1; replace h := h.2
  first | (refine req.intro hb ?_; conv => whnf) | skip
  let t1 : List UInt8 := (s.drop ata1.toNat).take ((wI .i64 (ata1 + k)).toNat - ata1.toNat)
  refine pk_s2b ?_
  conv => whnf
  have hl := loop59_1 hS _ res _ _ _ h rfl; simp only [head59_1] at hl
  refine Leads.re hl [(0, 0)] rfl ?_ ?_ <;> (repeat' first | exact trivial | refine ⟨⟨_, rfl, rfl⟩, ?_⟩ | refine ⟨⟨_, _, rfl, rfl, .rowF (vI_flat _ _) id⟩, ?_⟩ | refine ⟨⟨_, _, rfl, rfl, .rowF (vS_flat _) id⟩, ?_⟩ | refine ⟨⟨_, _, rfl, rfl, .rowF (vB_flat _) id⟩, ?_⟩ | refine ⟨⟨_, _, rfl, rfl, .cells rfl⟩, ?_⟩ | refine ⟨⟨_, _, rfl, rfl, .row rfl id⟩, ?_⟩ | refine ⟨⟨_, _, rfl, rfl, .cr rfl⟩, ?_⟩ | refine ⟨⟨_, _, rfl, rfl, .rc rfl⟩, ?_⟩ | refine ⟨⟨_, _, rfl, rfl, .marks⟩, ?_⟩ | refine ⟨⟨_, _, rfl, rfl, .siter _ _⟩, ?_⟩ | refine ⟨⟨_, _, rfl, rfl, .loop rfl rfl rfl rfl (by repeat' first | exact trivial | refine ⟨rfl, ?_⟩) rfl rfl rfl rfl⟩, ?_⟩)
theorem ok59 (hS : SumsOK Try.prog (aget (sums59))) : SumOK Try.prog 59 (s59 (octet_GetF)) := by
  refine SumOK.of_leads tab_ok (fun ar r ha hr => ?_) ⟨Try.f59, rfl, by decide, rfl⟩
  simp only [s59] at ha hr
  unfold r59 at hr
  split at hr <;> try (cases hr; done)
  split at hr <;> cases hr
  rename_i x h
  refine ⟨_, rfl, (leads59 hS _ _ _ x h).mono fun v H t hp => ?_⟩
  cases hp
  exact Res.val rfl trivial
def octet_Get : (List UInt8) → Int → Int → Option (Int × Bool) := octet_GetF
theorem lift59 : SumOK Try.prog 59 (s59 octet_Get) := ok59 (SumsOK.of_tab trivial)
end Go.Vm.Code

namespace Go.Vm.Code
open Go Go.Vm Go.Proofs
set_option maxRecDepth 100000
set_option maxHeartbeats 4000000
set_option linter.unusedVariables false

/-! cloakroom/cloakroomref02.Put -/
def R02_Put_s1 (k : Int) (n1 : Int) (s : List UInt8) (i : Int) : Option (Sum (Int × (List UInt8) × Int) (List UInt8)) :=
  cond (decide (i < k))
    (
    cond (decide (k ≤ 8))
      (
      let t := [UInt8.ofNat (wI .u8 (n1.tmod 256)).toNat]
      oreq (decide (t.length + s.length < 2 ^ 63)) <|
      some (.inl (wI .u64 (n1.tdiv 256), t ++ s, wI .i64 (i + 1))))
      (
      some (.inr (s))))
    (
    some (.inr (s)))
def R02_PutF (n : Int) (k : Int) : Option (List UInt8) :=
  iter (fun st => R02_Put_s1 k st.1 st.2.1 st.2.2) FUEL (n, [], 0)
def post64 (x : List UInt8) (v : Value) (H : Hp) : Prop := v = .string ⟨⟨x⟩⟩
def r64 (g : Int → Int → Option (List UInt8)) : List SArg → Option SRes
  | [.v (.int .u64 a0_1), .v (.int .i64 a1_1)] => match g a0_1 a1_1 with | some x => some ⟨.string ⟨⟨x⟩⟩, [], []⟩ | none => none
  | _ => none
def s64 (g : Int → Int → Option (List UInt8)) : Summ := ⟨[.v, .v], r64 g⟩
theorem r64_eq {g : Int → Int → Option (List UInt8)} {a0_1 : Int} {a1_1 : Int} {x : List UInt8} (hx : g a0_1 a1_1 = some x) : (s64 g).run [.v (.int .u64 a0_1), .v (.int .i64 a1_1)] = some ⟨.string ⟨⟨x⟩⟩, [], []⟩ := by
  show r64 g [.v (.int .u64 a0_1), .v (.int .i64 a1_1)] = _
  simp only [r64, hx]
abbrev sums64 : List (Nat × Summ) := []
def head64_1 (k : Int) (n1 : Int) (s : List UInt8) (i : Int) : VM :=
  ⟨⟨64, 26, [(0, .int .u64 n1), (1, .int .i64 k), (5, .string ⟨⟨s⟩⟩), (6, .int .i64 i)], [.code k64_12, .inLoop k64_12, .inBlock 0, .code k64_17], [], false, none⟩, [], [], 0⟩
theorem loop64_1 (hS : SumsOK Try.prog (aget (sums64))) (k : Int) (res : List UInt8) : ∀ fuel (st : Int × (List UInt8) × Int) (o : List UInt8), iter (fun st => R02_Put_s1 k st.1 st.2.1 st.2.2) fuel st = some o → (o = res) →
    Leads Try.prog 64 0 (head64_1 k st.1 st.2.1 st.2.2) (fun v H _ => post64 res v H) := by
  intro fuel st o h hc
  refine iter_leads (head := fun st => head64_1 k st.1 st.2.1 st.2.2) (C := fun o => (o = res)) ?_ fuel st o h hc
  clear h hc o st fuel
  intro st o h hc
  obtain ⟨n1, s, i⟩ := st
  replace h : R02_Put_s1 k n1 s i = some o := h
  show Leads Try.prog 64 0 (head64_1 k n1 s i) (fun v H _ => post64 res v H)
  unfold R02_Put_s1 at h
  refine ev_ok tab_ok hS true 3000 ?_
  conv => whnf
  refine br.h2 h ?_ ?_ ?_
  · rfl
  · clear h; intro hb h; conv => whnf
    all_goals (cases h; cases hc)
    all_goals exact rfl
  clear h; intro hb h; conv => whnf
  refine br.h2 h ?_ ?_ ?_
  · rfl
  · clear h; intro hb h; conv => whnf
    all_goals (cases h; cases hc)
    all_goals exact rfl
  clear h; intro hb h; conv => whnf
  refine pk_b2sL rfl ?_
  conv => whnf
  let t : List UInt8 := [UInt8.ofNat (wI .u8 (n1.tmod 256)).toNat]
  replace h := oreq.elim h; have hb := h.1; replace h := h.2
  first | (refine req.intro hb ?_; conv => whnf) | skip
  cases h; simp only [Sum.elim_inl, Sum.elim_inr, head64_1] at hc
  refine Leads.re hc [] rfl ?_ ?_ <;> (repeat' first | exact trivial | refine ⟨⟨_, rfl, rfl⟩, ?_⟩ | refine ⟨⟨_, _, rfl, rfl, .rowF (vI_flat _ _) id⟩, ?_⟩ | refine ⟨⟨_, _, rfl, rfl, .rowF (vS_flat _) id⟩, ?_⟩ | refine ⟨⟨_, _, rfl, rfl, .rowF (vB_flat _) id⟩, ?_⟩ | refine ⟨⟨_, _, rfl, rfl, .cells rfl⟩, ?_⟩ | refine ⟨⟨_, _, rfl, rfl, .row rfl id⟩, ?_⟩ | refine ⟨⟨_, _, rfl, rfl, .cr rfl⟩, ?_⟩ | refine ⟨⟨_, _, rfl, rfl, .rc rfl⟩, ?_⟩ | refine ⟨⟨_, _, rfl, rfl, .marks⟩, ?_⟩ | refine ⟨⟨_, _, rfl, rfl, .siter _ _⟩, ?_⟩ | refine ⟨⟨_, _, rfl, rfl, .loop rfl rfl rfl rfl (by repeat' first | exact trivial | refine ⟨rfl, ?_⟩) rfl rfl rfl rfl⟩, ?_⟩)
theorem leads64 (hS : SumsOK Try.prog (aget (sums64))) (n : Int) (k : Int) (res : List UInt8) (h : R02_PutF n k = some res) :
    Leads Try.prog 64 0 ⟨⟨64, 26, [(0, .int .u64 n), (1, .int .i64 k)], [.code k64_20], [], false, none⟩, [], [], 0⟩ (fun v H _ => post64 res v H) := by
  unfold R02_PutF at h
  refine ev_ok tab_ok hS true 3000 ?_
  conv => whnf
  have hl := loop64_1 hS _ res _ _ _ h rfl; simp only [head64_1] at hl
  refine Leads.re hl [] rfl ?_ ?_ <;> (repeat' first | exact trivial | refine ⟨⟨_, rfl, rfl⟩, ?_⟩ | refine ⟨⟨_, _, rfl, rfl, .rowF (vI_flat _ _) id⟩, ?_⟩ | refine ⟨⟨_, _, rfl, rfl, .rowF (vS_flat _) id⟩, ?_⟩ | refine ⟨⟨_, _, rfl, rfl, .rowF (vB_flat _) id⟩, ?_⟩ | refine ⟨⟨_, _, rfl, rfl, .cells rfl⟩, ?_⟩ | refine ⟨⟨_, _, rfl, rfl, .row rfl id⟩, ?_⟩ | refine ⟨⟨_, _, rfl, rfl, .cr rfl⟩, ?_⟩ | refine ⟨⟨_, _, rfl, rfl, .rc rfl⟩, ?_⟩ | refine ⟨⟨_, _, rfl, rfl, .marks⟩, ?_⟩ | refine ⟨⟨_, _, rfl, rfl, .siter _ _⟩, ?_⟩ | refine ⟨⟨_, _, rfl, rfl, .loop rfl rfl rfl rfl (by repeat' first | exact trivial | refine ⟨rfl, ?_⟩) rfl rfl rfl rfl⟩, ?_⟩)
theorem ok64 (hS : SumsOK Try.prog (aget (sums64))) : SumOK Try.prog 64 (s64 (R02_PutF)) := by
  refine SumOK.of_leads tab_ok (fun ar r ha hr => ?_) ⟨Try.f64, rfl, by decide, rfl⟩
  simp only [s64] at ha hr
  unfold r64 at hr
  split at hr <;> try (cases hr; done)
  split at hr <;> cases hr
  rename_i x h
  refine ⟨_, rfl, (leads64 hS _ _ x h).mono fun v H t hp => ?_⟩
  cases hp
  exact Res.val rfl trivial
def R02_Put : Int → Int → Option (List UInt8) := R02_PutF
theorem lift64 : SumOK Try.prog 64 (s64 R02_Put) := ok64 (SumsOK.of_tab trivial)
end Go.Vm.Code

namespace Go.Vm.Code
open Go Go.Vm Go.Proofs
set_option maxRecDepth 100000
set_option maxHeartbeats 4000000
set_option linter.unusedVariables false

/-! cloakroom/cloakroomref02.Get -/
def R02_Get_s1 (s : List UInt8) (ata1 : Int) (k : Int) (n : Int) (i : Int) : Option (Sum (Int × Int) (Int × Bool)) :=
  cond (decide (i < k))
    (
    oreq (decide (0 ≤ (wI .i64 (ata1 + i)))) <|
    (s[(wI .i64 (ata1 + i)).toNat]?).bind fun (b : UInt8) =>
    let t1 := wI .u64 ((wI .u64 (n * 256)) + (wI .u64 (b.toNat : Int)))
    some (.inl (t1, wI .i64 (i + 1))))
    (
    some (.inr ((n, true))))
def R02_GetF (s : List UInt8) (ata1 : Int) (k : Int) : Option (Int × Bool) :=
  cond (decide (k < 1))
    (
    some ((0, false)))
    (
    cond (decide (k > 8))
      (
      some ((0, false)))
      (
      cond (decide (ata1 < 0))
        (
        some ((0, false)))
        (
        cond (decide (ata1 > (s.length : Int)))
          (
          some ((0, false)))
          (
          let t := decide (k > (wI .i64 ((s.length : Int) - ata1)))
          cond (t)
            (
            some ((0, false)))
            (
            iter (fun st => R02_Get_s1 s ata1 k st.1 st.2) FUEL (0, 0))))))
def post60 (x : Int × Bool) (v : Value) (H : Hp) : Prop := v = .tuple ⟨[.int .u64 x.1, .bool x.2]⟩
def r60 (g : (List UInt8) → Int → Int → Option (Int × Bool)) : List SArg → Option SRes
  | [.v (.string ⟨⟨a0_1⟩⟩), .v (.int .i64 a1_1), .v (.int .i64 a2_1)] => match g a0_1 a1_1 a2_1 with | some x => some ⟨.tuple ⟨[.int .u64 x.1, .bool x.2]⟩, [], []⟩ | none => none
  | _ => none
def s60 (g : (List UInt8) → Int → Int → Option (Int × Bool)) : Summ := ⟨[.v, .v, .v], r60 g⟩
theorem r60_eq {g : (List UInt8) → Int → Int → Option (Int × Bool)} {a0_1 : List UInt8} {a1_1 : Int} {a2_1 : Int} {x : Int × Bool} (hx : g a0_1 a1_1 a2_1 = some x) : (s60 g).run [.v (.string ⟨⟨a0_1⟩⟩), .v (.int .i64 a1_1), .v (.int .i64 a2_1)] = some ⟨.tuple ⟨[.int .u64 x.1, .bool x.2]⟩, [], []⟩ := by
  show r60 g [.v (.string ⟨⟨a0_1⟩⟩), .v (.int .i64 a1_1), .v (.int .i64 a2_1)] = _
  simp only [r60, hx]
abbrev sums60 : List (Nat × Summ) := []
def head60_1 (s : List UInt8) (ata1 : Int) (k : Int) (n : Int) (i : Int) : VM :=
  ⟨⟨60, 49, [(0, .string ⟨⟨s⟩⟩), (1, .int .i64 ata1), (2, .int .i64 k), (8, .int .u64 n), (9, .int .i64 i)], [.code k60_15, .inLoop k60_15, .inBlock 0, .code k60_20], [], false, none⟩, [], [], 0⟩
theorem loop60_1 (hS : SumsOK Try.prog (aget (sums60))) (s : List UInt8) (ata1 : Int) (k : Int) (res : Int × Bool) : ∀ fuel (st : Int × Int) (o : Int × Bool), iter (fun st => R02_Get_s1 s ata1 k st.1 st.2) fuel st = some o → (o = res) →
    Leads Try.prog 60 0 (head60_1 s ata1 k st.1 st.2) (fun v H _ => post60 res v H) := by
  intro fuel st o h hc
  refine iter_leads (head := fun st => head60_1 s ata1 k st.1 st.2) (C := fun o => (o = res)) ?_ fuel st o h hc
  clear h hc o st fuel
  intro st o h hc
  obtain ⟨n, i⟩ := st
  replace h : R02_Get_s1 s ata1 k n i = some o := h
  show Leads Try.prog 60 0 (head60_1 s ata1 k n i) (fun v H _ => post60 res v H)
  unfold R02_Get_s1 at h
  refine ev_ok tab_ok hS true 3000 ?_
  conv => whnf
  refine br.h2 h ?_ ?_ ?_
  · rfl
  · clear h; intro hb h; conv => whnf
    all_goals (cases h; cases hc)
    all_goals exact rfl
  clear h; intro hb h; conv => whnf
  replace h := oreq.elim h; have hb := h.1; replace h := h.2
  first | (refine req.intro hb ?_; conv => whnf) | skip
  obtain ⟨b, hy, h2⟩ := obind.elim h; clear h; have h := h2; clear h2
  refine rdS.intro hy ?_
  conv => whnf
  let t1 : Int := wI .u64 ((wI .u64 (n * 256)) + (wI .u64 (b.toNat : Int)))
  cases h; simp only [Sum.elim_inl, Sum.elim_inr, head60_1] at hc
  refine Leads.re hc [] rfl ?_ ?_ <;> (repeat' first | exact trivial | refine ⟨⟨_, rfl, rfl⟩, ?_⟩ | refine ⟨⟨_, _, rfl, rfl, .rowF (vI_flat _ _) id⟩, ?_⟩ | refine ⟨⟨_, _, rfl, rfl, .rowF (vS_flat _) id⟩, ?_⟩ | refine ⟨⟨_, _, rfl, rfl, .rowF (vB_flat _) id⟩, ?_⟩ | refine ⟨⟨_, _, rfl, rfl, .cells rfl⟩, ?_⟩ | refine ⟨⟨_, _, rfl, rfl, .row rfl id⟩, ?_⟩ | refine ⟨⟨_, _, rfl, rfl, .cr rfl⟩, ?_⟩ | refine ⟨⟨_, _, rfl, rfl, .rc rfl⟩, ?_⟩ | refine ⟨⟨_, _, rfl, rfl, .marks⟩, ?_⟩ | refine ⟨⟨_, _, rfl, rfl, .siter _ _⟩, ?_⟩ | refine ⟨⟨_, _, rfl, rfl, .loop rfl rfl rfl rfl (by repeat' first | exact trivial | refine ⟨rfl, ?_⟩) rfl rfl rfl rfl⟩, ?_⟩)
theorem leads60 (hS : SumsOK Try.prog (aget (sums60))) (s : List UInt8) (ata1 : Int) (k : Int) (res : Int × Bool) (h : R02_GetF s ata1 k = some res) :
    Leads Try.prog 60 0 ⟨⟨60, 49, [(0, .string ⟨⟨s⟩⟩), (1, .int .i64 ata1), (2, .int .i64 k)], [.code k60_24], [], false, none⟩, [], [], 0⟩ (fun v H _ => post60 res v H) := by
  unfold R02_GetF at h
  refine ev_ok tab_ok hS true 3000 ?_
  conv => whnf
  refine br.h h ?_ ?_ ?_
  · rfl
  · clear h; intro hb h; conv => whnf
    all_goals (cases h)
    all_goals exact rfl
  clear h; intro hb h; conv => whnf
  refine br.h h ?_ ?_ ?_
  · rfl
  · clear h; intro hb h; conv => whnf
    all_goals (cases h)
    all_goals exact rfl
  clear h; intro hb h; conv => whnf
  refine br.h h ?_ ?_ ?_
  · rfl
  · clear h; intro hb h; conv => whnf
    all_goals (cases h)
    all_goals exact rfl
  clear h; intro hb h; conv => whnf
  refine br.h h ?_ ?_ ?_
  · rfl
  · clear h; intro hb h; conv => whnf
    all_goals (cases h)
    all_goals exact rfl
  clear h; intro hb h; conv => whnf
  let t : Bool := decide (k > (wI .i64 ((s.length : Int) - ata1)))
  refine br.h h ?_ ?_ ?_
  · rfl
  · clear h; intro hb h; conv => whnf
    all_goals (cases h)
    all_goals exact rfl
  clear h; intro hb h; conv => whnf
  have hl := loop60_1 hS _ _ _ res _ _ _ h rfl; simp only [head60_1] at hl
  refine Leads.re hl [] rfl ?_ ?_ <;> (repeat' first | exact trivial | refine ⟨⟨_, rfl, rfl⟩, ?_⟩ | refine ⟨⟨_, _, rfl, rfl, .rowF (vI_flat _ _) id⟩, ?_⟩ | refine ⟨⟨_, _, rfl, rfl, .rowF (vS_flat _) id⟩, ?_⟩ | refine ⟨⟨_, _, rfl, rfl, .rowF (vB_flat _) id⟩, ?_⟩ | refine ⟨⟨_, _, rfl, rfl, .cells rfl⟩, ?_⟩ | refine ⟨⟨_, _, rfl, rfl, .row rfl id⟩, ?_⟩ | refine ⟨⟨_, _, rfl, rfl, .cr rfl⟩, ?_⟩ | refine ⟨⟨_, _, rfl, rfl, .rc rfl⟩, ?_⟩ | refine ⟨⟨_, _, rfl, rfl, .marks⟩, ?_⟩ | refine ⟨⟨_, _, rfl, rfl, .siter _ _⟩, ?_⟩ | refine ⟨⟨_, _, rfl, rfl, .loop rfl rfl rfl rfl (by repeat' first | exact trivial | refine ⟨rfl, ?_⟩) rfl rfl rfl rfl⟩, ?_⟩)
theorem ok60 (hS : SumsOK Try.prog (aget (sums60))) : SumOK Try.prog 60 (s60 (R02_GetF)) := by
  refine SumOK.of_leads tab_ok (fun ar r ha hr => ?_) ⟨Try.f60, rfl, by decide, rfl⟩
  simp only [s60] at ha hr
  unfold r60 at hr
  split at hr <;> try (cases hr; done)
  split at hr <;> cases hr
  rename_i x h
  refine ⟨_, rfl, (leads60 hS _ _ _ x h).mono fun v H t hp => ?_⟩
  cases hp
  exact Res.val rfl trivial
def R02_Get : (List UInt8) → Int → Int → Option (Int × Bool) := R02_GetF
theorem lift60 : SumOK Try.prog 60 (s60 R02_Get) := ok60 (SumsOK.of_tab trivial)
end Go.Vm.Code

namespace Go.Vm.Code
open Go Go.Vm Go.Proofs
set_option maxRecDepth 100000
set_option maxHeartbeats 4000000
set_option linter.unusedVariables false

/-! cloakroom/cloakroomref02.Must -/
def R02_MustF (R02_Get : (List UInt8) → Int → Int → Option (Int × Bool)) (s : List UInt8) (ata1 : Int) (k : Int) : Option Int :=
  (R02_Get s ata1 k).bind fun xg =>
  some (wI .i64 xg.1)
def post79 (x : Int) (v : Value) (H : Hp) : Prop := v = .int .i64 x
def r79 (g : (List UInt8) → Int → Int → Option Int) : List SArg → Option SRes
  | [.v (.string ⟨⟨a0_1⟩⟩), .v (.int .i64 a1_1), .v (.int .i64 a2_1)] => match g a0_1 a1_1 a2_1 with | some x => some ⟨.int .i64 x, [], []⟩ | none => none
  | _ => none
def s79 (g : (List UInt8) → Int → Int → Option Int) : Summ := ⟨[.v, .v, .v], r79 g⟩
theorem r79_eq {g : (List UInt8) → Int → Int → Option Int} {a0_1 : List UInt8} {a1_1 : Int} {a2_1 : Int} {x : Int} (hx : g a0_1 a1_1 a2_1 = some x) : (s79 g).run [.v (.string ⟨⟨a0_1⟩⟩), .v (.int .i64 a1_1), .v (.int .i64 a2_1)] = some ⟨.int .i64 x, [], []⟩ := by
  show r79 g [.v (.string ⟨⟨a0_1⟩⟩), .v (.int .i64 a1_1), .v (.int .i64 a2_1)] = _
  simp only [r79, hx]
abbrev sums79 (R02_Get : (List UInt8) → Int → Int → Option (Int × Bool)) : List (Nat × Summ) := [(60, s60 R02_Get)]
theorem leads79 (R02_Get : (List UInt8) → Int → Int → Option (Int × Bool)) (hS : SumsOK Try.prog (aget (sums79 R02_Get))) (s : List UInt8) (ata1 : Int) (k : Int) (res : Int) (h : R02_MustF R02_Get s ata1 k = some res) :
    Leads Try.prog 79 0 ⟨⟨79, 18, [(0, .string ⟨⟨s⟩⟩), (1, .int .i64 ata1), (2, .int .i64 k)], [.code k79_5], [], false, none⟩, [], [], 0⟩ (fun v H _ => post79 res v H) := by
  unfold R02_MustF at h
  refine ev_ok tab_ok hS true 3000 ?_
  conv => whnf
  obtain ⟨xg, hy, h2⟩ := obind.elim h; clear h; have h := h2; clear h2
  refine sumK.introF [] (sumRun_of (aqs := [.v (.string ⟨⟨s⟩⟩), .v (.int .i64 ata1), .v (.int .i64 k)]) (ra_cons rfl (ra_cons rfl (ra_cons rfl ra_nil))) (r60_eq hy) rfl rfl rfl rfl) ?_
  conv => whnf
  all_goals (cases h)
  all_goals exact rfl
theorem ok79 (R02_Get : (List UInt8) → Int → Int → Option (Int × Bool)) (hS : SumsOK Try.prog (aget (sums79 R02_Get))) : SumOK Try.prog 79 (s79 (R02_MustF R02_Get)) := by
  refine SumOK.of_leads tab_ok (fun ar r ha hr => ?_) ⟨Try.f79, rfl, by decide, rfl⟩
  simp only [s79] at ha hr
  unfold r79 at hr
  split at hr <;> try (cases hr; done)
  split at hr <;> cases hr
  rename_i x h
  refine ⟨_, rfl, (leads79 R02_Get hS _ _ _ x h).mono fun v H t hp => ?_⟩
  cases hp
  exact Res.val rfl trivial
def R02_Must : (List UInt8) → Int → Int → Option Int := R02_MustF R02_Get
theorem lift79 : SumOK Try.prog 79 (s79 R02_Must) := ok79 R02_Get (SumsOK.of_tab ⟨lift60, trivial⟩)
end Go.Vm.Code

/- Chapter 2's numbers and bytes: what the lifted functions compute. -/
namespace Go.Vm.Code
open Go Go.Vm

def putS (n k : Int) : List UInt8 := if 1 ≤ k ∧ k ≤ 8 then be n.toNat k.toNat else []
theorem octet_Put_eq {n k : Int} (h0 : 0 ≤ n) : octet_Put n k = some (putS n k) := by
  unfold octet_Put octet_PutF putS
  by_cases h1 : k < 1
  · rw [cond_p h1, if_neg (by omega)]
  by_cases h2 : k > 8
  · rw [cond_n h1, cond_p h2, if_neg (by omega)]
  rw [cond_n h1, cond_n h2, oreq_p (by omega), if_pos (by omega)]
  obtain ⟨m, rfl⟩ := Int.eq_ofNat_of_zero_le h0
  obtain ⟨j, rfl⟩ := Int.eq_ofNat_of_zero_le (show 0 ≤ k by omega)
  have key := iter_eq (step := fun (st : Int × List Int) => octet_Put_s1 (m : Int) (j : Int) st.1 st.2) (fun st => iB (st.2.take st.1.toNat) ++ be m (j - st.1.toNat)) (fun st => 0 ≤ st.1 ∧ st.1 ≤ j ∧ st.2.length = j) (fun st => (j - st.1).toNat) ?_ FUEL (0, List.replicate (j : Int).toNat 0) ⟨by simp, by simp, by simp⟩ (by rw [FUEL_eq]; simp only; omega)
  · rw [key]; simp [iB]
  rintro ⟨p, b⟩ ⟨g1, g2, g3⟩
  simp only at g1 g2 g3 ⊢
  obtain ⟨i, rfl⟩ := Int.eq_ofNat_of_zero_le g1
  unfold octet_Put_s1
  by_cases hp : i < j
  · refine .inr ⟨(((i + 1 : Nat) : Int), b.set i ((m / 256 ^ (j - 1 - i) % 256 : Nat) : Int)), ?_, ⟨by simp only; omega, by simp only; omega, by simp [g3]⟩, by simp only; omega, ?_⟩
    · simp (disch := omega) only [wI64, oreq_p, cond_p, Int.toNat_natCast]
      have e1 : min (8 * ((j : Int) - 1 - i)).toNat 64 = 8 * (j - 1 - i) := by omega
      have e0 : (2 : Int) ^ (8 * (j - 1 - i)) = ((256 ^ (j - 1 - i) : Nat) : Int) := by rw [show (256 : Nat) = 2 ^ 8 from rfl, ← Nat.pow_mul]; push_cast; rfl
      rw [e1, fdivP, wU8m, e0]
      rfl
    · simp only [Int.toNat_natCast]
      have e2 : j - i = (j - (i + 1)) + 1 := by omega
      have e3 : j - (i + 1) = j - 1 - i := by omega
      have e4 : (b.set i ((m / 256 ^ (j - 1 - i) % 256 : Nat) : Int)).take (i + 1) = b.take i ++ [((m / 256 ^ (j - 1 - i) % 256 : Nat) : Int)] := by
        rw [List.take_succ_eq_append_getElem (by simp; omega), List.take_set_of_le (Nat.le_refl _), List.getElem_set_self]
      rw [e2, e4, be, e3]
      simp only [iB, List.map_append, List.map_cons, List.map_nil, List.append_assoc, List.cons_append, List.nil_append, Int.toNat_natCast]
      congr 2
      apply UInt8.toNat_inj.1
      simp
  · refine .inl ?_
    obtain rfl : i = j := by omega
    simp (disch := omega) only [cond_n, oreq_p, Int.toNat_natCast]
    simp [be]
theorem R02_Put_eq {n k : Int} (h0 : 0 ≤ n) (h1 : n < 2 ^ 64) : R02_Put n k = some (putS n k) := by
  unfold R02_Put R02_PutF putS
  obtain ⟨m, rfl⟩ := Int.eq_ofNat_of_zero_le h0
  by_cases hk : 1 ≤ k ∧ k ≤ 8
  · rw [if_pos hk]
    obtain ⟨j, rfl⟩ := Int.eq_ofNat_of_zero_le (show 0 ≤ k by omega)
    have key := iter_eq (step := fun st => R02_Put_s1 (j : Int) st.1 st.2.1 st.2.2) (fun st => be st.1.toNat (j - st.2.2.toNat) ++ st.2.1) (fun st => 0 ≤ st.1 ∧ st.1 < 2 ^ 64 ∧ 0 ≤ st.2.2 ∧ st.2.2 ≤ j ∧ st.2.1.length < 2 ^ 20 + st.2.2.toNat) (fun st => (j - st.2.2).toNat) ?_ FUEL ((m : Int), [], 0) ⟨by simp, by simp only; omega, by simp, by simp, by simp⟩ (by rw [FUEL_eq]; simp only; omega)
    · rw [key]; simp
    rintro ⟨n, s, p⟩ ⟨g1, g2, g3, g4, g5⟩
    simp only at g1 g2 g3 g4 g5 ⊢
    obtain ⟨i, rfl⟩ := Int.eq_ofNat_of_zero_le g3
    obtain ⟨x, rfl⟩ := Int.eq_ofNat_of_zero_le g1
    unfold R02_Put_s1
    by_cases hp : i < j
    · refine .inr ⟨(((x / 256 : Nat) : Int), UInt8.ofNat x :: s, ((i + 1 : Nat) : Int)), ?_, ⟨by simp only; omega, by simp only; omega, by simp only; omega, by simp only; omega, by simp at g5 ⊢; omega⟩, by simp only; omega, ?_⟩
      · have e1 : (x : Int).tmod 256 = ((x % 256 : Nat) : Int) := by rw [Int.tmod_eq_emod_of_nonneg (by omega)]; rfl
        have e2 : (x : Int).tdiv 256 = ((x / 256 : Nat) : Int) := by rw [Int.tdiv_eq_ediv_of_nonneg (by omega)]; rfl
        rw [cond_p (by omega), cond_p (by omega), e1, e2, wU8 (by omega) (by omega)]
        simp only [List.length_cons, List.length_nil]
        rw [oreq_p (by omega), wU64 (by omega) (by omega), wI64 (by omega) (by omega), Int.toNat_natCast]
        have e3 : UInt8.ofNat (x % 256) = UInt8.ofNat x := by apply UInt8.toNat_inj.1; simp
        rw [e3]; rfl
      · simp only [Int.toNat_natCast]
        have e2 : j - i = (j - (i + 1)) + 1 := by omega
        rw [e2, be_snoc]; simp
    · refine .inl ?_
      obtain rfl : i = j := by omega
      rw [cond_n (by omega)]
      simp [be]
  · rw [if_neg hk]
    show iter _ (18446744073709551615 + 1) _ = _
    rw [iter]
    have : R02_Put_s1 k (m : Int) [] 0 = some (.inr []) := by
      unfold R02_Put_s1
      by_cases h2 : 0 < k
      · rw [cond_p h2, cond_n (by omega)]
      · rw [cond_n h2]
    simp only [this]

/-- a number read -/
def getS (s : List UInt8) (p k : Int) : Int × Bool := if 1 ≤ k ∧ k ≤ 8 ∧ 0 ≤ p ∧ p + k ≤ s.length then (((valL ((s.drop p.toNat).take k.toNat) : Nat) : Int), true) else (0, false)
theorem pow_step {v i : Nat} (h : v < 256 ^ i) (hi : i ≤ 7) : v < 2 ^ 56 := Nat.lt_of_lt_of_le h (by
  have : (256 : Nat) ^ i ≤ 256 ^ 7 := Nat.pow_le_pow_right (by decide) hi
  simpa using this)
theorem octet_Get_eq {s : List UInt8} {p k : Int} (hs : s.length < 2 ^ 61) : octet_Get s p k = some (getS s p k) := by
  unfold octet_Get octet_GetF getS
  by_cases h1 : k < 1
  · rw [cond_p h1, if_neg (by omega)]
  by_cases h2 : k > 8
  · rw [cond_n h1, cond_p h2, if_neg (by omega)]
  by_cases h3 : p < 0
  · rw [cond_n h1, cond_n h2, cond_p h3, if_neg (by omega)]
  rw [cond_n h1, cond_n h2, cond_n h3, wI64 (n := (s.length : Int) - k) (by omega) (by omega)]
  by_cases h4 : (s.length : Int) - k < p
  · simp only []
    rw [cond_p h4, if_neg (by omega)]
  simp only []
  rw [cond_n h4, wI64 (n := p + k) (by omega) (by omega), oreq_p (by omega), if_pos (by omega)]
  obtain ⟨q, rfl⟩ := Int.eq_ofNat_of_zero_le (show 0 ≤ p by omega)
  obtain ⟨j, rfl⟩ := Int.eq_ofNat_of_zero_le (show 0 ≤ k by omega)
  have e : ((q : Int) + j).toNat - (q : Int).toNat = j := by omega
  rw [e]
  simp only [Int.toNat_natCast]
  generalize ht : (s.drop q).take j = t
  have hl : t.length = j := by rw [← ht]; simp; omega
  have key := iter_eq (step := fun st => octet_Get_s1 t st.1 st.2) (fun st => (((st.1.toNat * 256 ^ (j - st.2.toNat) + valL (t.drop st.2.toNat) : Nat) : Int), true)) (fun st => 0 ≤ st.1 ∧ 0 ≤ st.2 ∧ st.2 ≤ j ∧ st.1.toNat < 256 ^ st.2.toNat) (fun st => (j - st.2).toNat) ?_ FUEL (0, 0) ⟨by simp, by simp, by simp, by simp⟩ (by rw [FUEL_eq]; simp only; omega)
  · rw [key]; simp
  rintro ⟨n, x⟩ ⟨g1, g2, g3, g4⟩
  simp only at g1 g2 g3 g4 ⊢
  obtain ⟨i, rfl⟩ := Int.eq_ofNat_of_zero_le g2
  obtain ⟨v, rfl⟩ := Int.eq_ofNat_of_zero_le g1
  simp only [Int.toNat_natCast] at g4 ⊢
  unfold octet_Get_s1
  by_cases hp : i < j
  · have hlt : i < t.length := by omega
    have hb := t[i].toNat_lt
    have hv := pow_step g4 (by omega)
    refine .inr ⟨(((v * 256 + t[i].toNat : Nat) : Int), ((i + 1 : Nat) : Int)), ?_, ⟨by simp only; omega, by simp only; omega, by simp only; omega, ?_⟩, by simp only; omega, ?_⟩
    · rw [cond_p (by omega), oreq_p (by omega)]
      have e1 : (bI t)[(i : Int).toNat]? = some (t[i].toNat : Int) := by simp [bI, hlt]
      rw [e1, Option.bind_some]
      have e2 : iorI .u64 (wI .u64 ((v : Int) * 2 ^ 8)) (wI .u64 (t[i].toNat : Int)) = ((v * 256 + t[i].toNat : Nat) : Int) := by
        rw [wU64 (by omega) (by omega), wU64 (by omega) (by omega), iorU64_low 8 (by omega) (by omega) (by omega) (by omega) (by omega)]; omega
      simp only [e2]
      rw [wI64 (by omega) (by omega)]; rfl
    · simp only [Int.toNat_natCast]
      rw [Nat.pow_succ]; omega
    · simp only [Int.toNat_natCast]
      rw [List.drop_eq_getElem_cons hlt, val_cons]
      have e3 : (t.drop (i + 1)).length = j - (i + 1) := by simp; omega
      have e4 : j - i = (j - (i + 1)) + 1 := by omega
      rw [e3, e4, Nat.pow_succ, Nat.add_mul, Nat.mul_assoc, Nat.mul_comm 256, Nat.add_assoc]
  · refine .inl ?_
    obtain rfl : i = j := by omega
    rw [cond_n (by omega)]
    simp [← hl]
theorem R02_Get_eq {s : List UInt8} {p k : Int} (hs : s.length < 2 ^ 61) : R02_Get s p k = some (getS s p k) := by
  unfold R02_Get R02_GetF getS
  by_cases h1 : k < 1
  · rw [cond_p h1, if_neg (by omega)]
  by_cases h2 : k > 8
  · rw [cond_n h1, cond_p h2, if_neg (by omega)]
  by_cases h3 : p < 0
  · rw [cond_n h1, cond_n h2, cond_p h3, if_neg (by omega)]
  by_cases h5 : p > s.length
  · rw [cond_n h1, cond_n h2, cond_n h3, cond_p h5, if_neg (by omega)]
  rw [cond_n h1, cond_n h2, cond_n h3, cond_n h5, wI64 (n := (s.length : Int) - p) (by omega) (by omega)]
  by_cases h4 : k > (s.length : Int) - p
  · simp only []
    rw [cond_p h4, if_neg (by omega)]
  simp only []
  rw [cond_n h4, if_pos (by omega)]
  obtain ⟨q, rfl⟩ := Int.eq_ofNat_of_zero_le (show 0 ≤ p by omega)
  obtain ⟨j, rfl⟩ := Int.eq_ofNat_of_zero_le (show 0 ≤ k by omega)
  simp only [Int.toNat_natCast]
  generalize ht : (s.drop q).take j = t
  have hl : t.length = j := by rw [← ht]; simp; omega
  have key := iter_eq (step := fun st => R02_Get_s1 s (q : Int) (j : Int) st.1 st.2) (fun st => (((st.1.toNat * 256 ^ (j - st.2.toNat) + valL (t.drop st.2.toNat) : Nat) : Int), true)) (fun st => 0 ≤ st.1 ∧ 0 ≤ st.2 ∧ st.2 ≤ j ∧ st.1.toNat < 256 ^ st.2.toNat) (fun st => (j - st.2).toNat) ?_ FUEL (0, 0) ⟨by simp, by simp, by simp, by simp⟩ (by rw [FUEL_eq]; simp only; omega)
  · rw [key]; simp
  rintro ⟨n, x⟩ ⟨g1, g2, g3, g4⟩
  simp only at g1 g2 g3 g4 ⊢
  obtain ⟨i, rfl⟩ := Int.eq_ofNat_of_zero_le g2
  obtain ⟨v, rfl⟩ := Int.eq_ofNat_of_zero_le g1
  simp only [Int.toNat_natCast] at g4 ⊢
  unfold R02_Get_s1
  by_cases hp : i < j
  · have hlt : i < t.length := by omega
    have hb := t[i].toNat_lt
    have hv := pow_step g4 (by omega)
    refine .inr ⟨(((v * 256 + t[i].toNat : Nat) : Int), ((i + 1 : Nat) : Int)), ?_, ⟨by simp only; omega, by simp only; omega, by simp only; omega, ?_⟩, by simp only; omega, ?_⟩
    · rw [cond_p (by omega), wI64 (n := (q : Int) + i) (by omega) (by omega), oreq_p (by omega)]
      have e0 : ((q : Int) + i).toNat = q + i := by omega
      have e1 : s[q + i]? = some t[i] := by
        subst ht
        rw [List.getElem?_eq_getElem (by omega)]
        simp
      rw [e0, e1, Option.bind_some]
      have e2 : wI .u64 ((wI .u64 ((v : Int) * 256)) + (wI .u64 (t[i].toNat : Int))) = ((v * 256 + t[i].toNat : Nat) : Int) := by
        rw [wU64 (n := (v : Int) * 256) (by omega) (by omega), wU64 (n := (t[i].toNat : Int)) (by omega) (by omega), wU64 (by omega) (by omega)]; omega
      simp only [e2]
      rw [wI64 (by omega) (by omega)]; rfl
    · simp only [Int.toNat_natCast]
      rw [Nat.pow_succ]; omega
    · simp only [Int.toNat_natCast]
      rw [List.drop_eq_getElem_cons hlt, val_cons]
      have e3 : (t.drop (i + 1)).length = j - (i + 1) := by simp; omega
      have e4 : j - i = (j - (i + 1)) + 1 := by omega
      rw [e3, e4, Nat.pow_succ, Nat.add_mul, Nat.mul_assoc, Nat.mul_comm 256, Nat.add_assoc]
  · refine .inl ?_
    obtain rfl : i = j := by omega
    rw [cond_n (by omega)]
    simp [← hl]
theorem R02_Must_eq {s : List UInt8} {p k : Int} (hs : s.length < 2 ^ 61) : R02_Must s p k = some (wI .i64 (getS s p k).1) := by
  unfold R02_Must R02_MustF
  rw [R02_Get_eq hs]; rfl
end Go.Vm.Code

namespace Go.Vm.Code
open Go Go.Vm Go.Proofs
set_option maxRecDepth 100000
set_option maxHeartbeats 4000000
set_option linter.unusedVariables false

/-! cloakroom/check.Set -/
def check_SetF (octet_Put : Int → Int → Option (List UInt8)) (s : List UInt8) (ata1 : Int) (k : Int) (n : Int) : Option (List UInt8) :=
  (octet_Put n k).bind fun p =>
  cond (p == [])
    (
    some (s))
    (
    cond (decide (ata1 < 0))
      (
      some (s))
      (
      let t := decide ((wI .i64 ((s.length : Int) - k)) < ata1)
      cond (t)
        (
        some (s))
        (
        oreq (decide ((0 : Int) ≤ ata1 ∧ ata1 ≤ (s.length : Int))) <|
        oreq (decide ((s.take ata1.toNat).length + p.length < 2 ^ 63)) <|
        oreq (decide ((0 : Int) ≤ (wI .i64 (ata1 + k)) ∧ (wI .i64 (ata1 + k)) ≤ (s.length : Int))) <|
        let t1 := (s.drop (wI .i64 (ata1 + k)).toNat).take (s.length - (wI .i64 (ata1 + k)).toNat)
        oreq (decide (((s.take ata1.toNat) ++ p).length + t1.length < 2 ^ 63)) <|
        some (((s.take ata1.toNat) ++ p) ++ t1))))
def post83 (x : List UInt8) (v : Value) (H : Hp) : Prop := v = .string ⟨⟨x⟩⟩
def r83 (g : (List UInt8) → Int → Int → Int → Option (List UInt8)) : List SArg → Option SRes
  | [.v (.string ⟨⟨a0_1⟩⟩), .v (.int .i64 a1_1), .v (.int .i64 a2_1), .v (.int .u64 a3_1)] => match g a0_1 a1_1 a2_1 a3_1 with | some x => some ⟨.string ⟨⟨x⟩⟩, [], []⟩ | none => none
  | _ => none
def s83 (g : (List UInt8) → Int → Int → Int → Option (List UInt8)) : Summ := ⟨[.v, .v, .v, .v], r83 g⟩
theorem r83_eq {g : (List UInt8) → Int → Int → Int → Option (List UInt8)} {a0_1 : List UInt8} {a1_1 : Int} {a2_1 : Int} {a3_1 : Int} {x : List UInt8} (hx : g a0_1 a1_1 a2_1 a3_1 = some x) : (s83 g).run [.v (.string ⟨⟨a0_1⟩⟩), .v (.int .i64 a1_1), .v (.int .i64 a2_1), .v (.int .u64 a3_1)] = some ⟨.string ⟨⟨x⟩⟩, [], []⟩ := by
  show r83 g [.v (.string ⟨⟨a0_1⟩⟩), .v (.int .i64 a1_1), .v (.int .i64 a2_1), .v (.int .u64 a3_1)] = _
  simp only [r83, hx]
abbrev sums83 (octet_Put : Int → Int → Option (List UInt8)) : List (Nat × Summ) := [(63, s63 octet_Put)]
theorem leads83 (octet_Put : Int → Int → Option (List UInt8)) (hS : SumsOK Try.prog (aget (sums83 octet_Put))) (s : List UInt8) (ata1 : Int) (k : Int) (n : Int) (res : List UInt8) (h : check_SetF octet_Put s ata1 k n = some res) :
    Leads Try.prog 83 0 ⟨⟨83, 39, [(0, .string ⟨⟨s⟩⟩), (1, .int .i64 ata1), (2, .int .i64 k), (3, .int .u64 n)], [.code k83_11], [], false, none⟩, [], [], 0⟩ (fun v H _ => post83 res v H) := by
  unfold check_SetF at h
  refine ev_ok tab_ok hS true 3000 ?_
  conv => whnf
  obtain ⟨p, hy, h2⟩ := obind.elim h; clear h; have h := h2; clear h2
  refine sumK.introF [] (sumRun_of (aqs := [.v (.int .u64 n), .v (.int .i64 k)]) (ra_cons rfl (ra_cons rfl ra_nil)) (r63_eq hy) rfl rfl rfl rfl) ?_
  conv => whnf
  refine br.h h ?_ ?_ ?_
  · rfl
  · clear h; intro hb h; conv => whnf
    all_goals (cases h)
    all_goals exact rfl
  clear h; intro hb h; conv => whnf
  refine br.h h ?_ ?_ ?_
  · rfl
  · clear h; intro hb h; conv => whnf
    all_goals (cases h)
    all_goals exact rfl
  clear h; intro hb h; conv => whnf
  let t : Bool := decide ((wI .i64 ((s.length : Int) - k)) < ata1)
  refine br.h h ?_ ?_ ?_
  · rfl
  · clear h; intro hb h; conv => whnf
    all_goals (cases h)
    all_goals exact rfl
  clear h; intro hb h; conv => whnf
  replace h := oreq.elim h; have hb := h.1; replace h := h.2
  first | (refine req.intro hb ?_; conv => whnf) | skip
  replace h := oreq.elim h; have hb := h.1; replace h := h.2
  first | (refine req.intro hb ?_; conv => whnf) | skip
  replace h := oreq.elim h; have hb := h.1; replace h := h.2
  first | (refine req.intro hb ?_; conv => whnf) | skip
  let t1 : List UInt8 := (s.drop (wI .i64 (ata1 + k)).toNat).take (s.length - (wI .i64 (ata1 + k)).toNat)
  replace h := oreq.elim h; have hb := h.1; replace h := h.2
  first | (refine req.intro hb ?_; conv => whnf) | skip
  all_goals (cases h)
  all_goals exact rfl
theorem ok83 (octet_Put : Int → Int → Option (List UInt8)) (hS : SumsOK Try.prog (aget (sums83 octet_Put))) : SumOK Try.prog 83 (s83 (check_SetF octet_Put)) := by
  refine SumOK.of_leads tab_ok (fun ar r ha hr => ?_) ⟨Try.f83, rfl, by decide, rfl⟩
  simp only [s83] at ha hr
  unfold r83 at hr
  split at hr <;> try (cases hr; done)
  split at hr <;> cases hr
  rename_i x h
  refine ⟨_, rfl, (leads83 octet_Put hS _ _ _ _ x h).mono fun v H t hp => ?_⟩
  cases hp
  exact Res.val rfl trivial
def check_Set : (List UInt8) → Int → Int → Int → Option (List UInt8) := check_SetF octet_Put
theorem lift83 : SumOK Try.prog 83 (s83 check_Set) := ok83 octet_Put (SumsOK.of_tab ⟨lift63, trivial⟩)
end Go.Vm.Code

namespace Go.Vm.Code
open Go Go.Vm Go.Proofs
set_option maxRecDepth 100000
set_option maxHeartbeats 4000000
set_option linter.unusedVariables false

/-! cloakroom/cloakroomref03.Set -/
def R03_SetF (R02_Get : (List UInt8) → Int → Int → Option (Int × Bool)) (R02_Put : Int → Int → Option (List UInt8)) (s : List UInt8) (ata1 : Int) (k : Int) (n : Int) : Option (List UInt8) :=
  (R02_Get s ata1 k).bind fun xg =>
  cond (!xg.2)
    (
    some (s))
    (
    oreq (decide ((0 : Int) ≤ ata1 ∧ ata1 ≤ (s.length : Int))) <|
    (R02_Put n k).bind fun p =>
    oreq (decide ((s.take ata1.toNat).length + p.length < 2 ^ 63)) <|
    oreq (decide ((0 : Int) ≤ (wI .i64 (ata1 + k)) ∧ (wI .i64 (ata1 + k)) ≤ (s.length : Int))) <|
    let t := (s.drop (wI .i64 (ata1 + k)).toNat).take (s.length - (wI .i64 (ata1 + k)).toNat)
    oreq (decide (((s.take ata1.toNat) ++ p).length + t.length < 2 ^ 63)) <|
    some (((s.take ata1.toNat) ++ p) ++ t))
def post85 (x : List UInt8) (v : Value) (H : Hp) : Prop := v = .string ⟨⟨x⟩⟩
def r85 (g : (List UInt8) → Int → Int → Int → Option (List UInt8)) : List SArg → Option SRes
  | [.v (.string ⟨⟨a0_1⟩⟩), .v (.int .i64 a1_1), .v (.int .i64 a2_1), .v (.int .u64 a3_1)] => match g a0_1 a1_1 a2_1 a3_1 with | some x => some ⟨.string ⟨⟨x⟩⟩, [], []⟩ | none => none
  | _ => none
def s85 (g : (List UInt8) → Int → Int → Int → Option (List UInt8)) : Summ := ⟨[.v, .v, .v, .v], r85 g⟩
theorem r85_eq {g : (List UInt8) → Int → Int → Int → Option (List UInt8)} {a0_1 : List UInt8} {a1_1 : Int} {a2_1 : Int} {a3_1 : Int} {x : List UInt8} (hx : g a0_1 a1_1 a2_1 a3_1 = some x) : (s85 g).run [.v (.string ⟨⟨a0_1⟩⟩), .v (.int .i64 a1_1), .v (.int .i64 a2_1), .v (.int .u64 a3_1)] = some ⟨.string ⟨⟨x⟩⟩, [], []⟩ := by
  show r85 g [.v (.string ⟨⟨a0_1⟩⟩), .v (.int .i64 a1_1), .v (.int .i64 a2_1), .v (.int .u64 a3_1)] = _
  simp only [r85, hx]
abbrev sums85 (R02_Get : (List UInt8) → Int → Int → Option (Int × Bool)) (R02_Put : Int → Int → Option (List UInt8)) : List (Nat × Summ) := [(60, s60 R02_Get), (64, s64 R02_Put)]
theorem leads85 (R02_Get : (List UInt8) → Int → Int → Option (Int × Bool)) (R02_Put : Int → Int → Option (List UInt8)) (hS : SumsOK Try.prog (aget (sums85 R02_Get R02_Put))) (s : List UInt8) (ata1 : Int) (k : Int) (n : Int) (res : List UInt8) (h : R03_SetF R02_Get R02_Put s ata1 k n = some res) :
    Leads Try.prog 85 0 ⟨⟨85, 34, [(0, .string ⟨⟨s⟩⟩), (1, .int .i64 ata1), (2, .int .i64 k), (3, .int .u64 n)], [.code k85_11], [], false, none⟩, [], [], 0⟩ (fun v H _ => post85 res v H) := by
  unfold R03_SetF at h
  refine ev_ok tab_ok hS true 3000 ?_
  conv => whnf
  obtain ⟨xg, hy, h2⟩ := obind.elim h; clear h; have h := h2; clear h2
  refine sumK.introF [] (sumRun_of (aqs := [.v (.string ⟨⟨s⟩⟩), .v (.int .i64 ata1), .v (.int .i64 k)]) (ra_cons rfl (ra_cons rfl (ra_cons rfl ra_nil))) (r60_eq hy) rfl rfl rfl rfl) ?_
  conv => whnf
  refine br.h h ?_ ?_ ?_
  · rfl
  · clear h; intro hb h; conv => whnf
    all_goals (cases h)
    all_goals exact rfl
  clear h; intro hb h; conv => whnf
  replace h := oreq.elim h; have hb := h.1; replace h := h.2
  first | (refine req.intro hb ?_; conv => whnf) | skip
  obtain ⟨p, hy, h2⟩ := obind.elim h; clear h; have h := h2; clear h2
  refine sumK.introF [] (sumRun_of (aqs := [.v (.int .u64 n), .v (.int .i64 k)]) (ra_cons rfl (ra_cons rfl ra_nil)) (r64_eq hy) rfl rfl rfl rfl) ?_
  conv => whnf
  replace h := oreq.elim h; have hb := h.1; replace h := h.2
  first | (refine req.intro hb ?_; conv => whnf) | skip
  replace h := oreq.elim h; have hb := h.1; replace h := h.2
  first | (refine req.intro hb ?_; conv => whnf) | skip
  let t : List UInt8 := (s.drop (wI .i64 (ata1 + k)).toNat).take (s.length - (wI .i64 (ata1 + k)).toNat)
  replace h := oreq.elim h; have hb := h.1; replace h := h.2
  first | (refine req.intro hb ?_; conv => whnf) | skip
  all_goals (cases h)
  all_goals exact rfl
theorem ok85 (R02_Get : (List UInt8) → Int → Int → Option (Int × Bool)) (R02_Put : Int → Int → Option (List UInt8)) (hS : SumsOK Try.prog (aget (sums85 R02_Get R02_Put))) : SumOK Try.prog 85 (s85 (R03_SetF R02_Get R02_Put)) := by
  refine SumOK.of_leads tab_ok (fun ar r ha hr => ?_) ⟨Try.f85, rfl, by decide, rfl⟩
  simp only [s85] at ha hr
  unfold r85 at hr
  split at hr <;> try (cases hr; done)
  split at hr <;> cases hr
  rename_i x h
  refine ⟨_, rfl, (leads85 R02_Get R02_Put hS _ _ _ _ x h).mono fun v H t hp => ?_⟩
  cases hp
  exact Res.val rfl trivial
def R03_Set : (List UInt8) → Int → Int → Int → Option (List UInt8) := R03_SetF R02_Get R02_Put
theorem lift85 : SumOK Try.prog 85 (s85 R03_Set) := ok85 R02_Get R02_Put (SumsOK.of_tab ⟨lift60, lift64, trivial⟩)
end Go.Vm.Code

namespace Go.Vm.Code
open Go Go.Vm Go.Proofs
set_option maxRecDepth 100000
set_option maxHeartbeats 4000000
set_option linter.unusedVariables false

/-! cloakroom/cloakroomref03.Add -/
def R03_Add_s1 (l : List Int) (n1 : Int) : Option (Sum Int Int) :=
  cond (decide (n1 > 65535))
    (
    let t := wI .i64 ((n1.tmod 65536) + (wI .i64 (n1.tdiv 65536)))
    some (.inl t))
    (
    some (.inr (n1)))
def R03_Add_s2 (l : List Int) (n : Int) (i : Int) : Option (Sum (Int × Int) Int) :=
  cond (decide (i < (l.length : Int)))
    (
    oreq (decide ((0 : Int) ≤ i ∧ i < (l.length : Int))) <|
    (l[i.toNat]?).bind fun (e : Int) =>
    some (.inl (wI .i64 (n + e), wI .i64 (i + 1))))
    (
    (iter (fun st => R03_Add_s1 l st) FUEL n).bind fun o => some (.inr (o)))
def R03_AddF (l : List Int) : Option Int :=
  iter (fun st => R03_Add_s2 l st.1 st.2) FUEL (0, 0)
def post116 (x : Int) (v : Value) (H : Hp) : Prop := v = .int .i64 x
def r116 (g : (List Int) → Option Int) : List SArg → Option SRes
  | [.sl n0 cs0] => match unL (asI .i64) cs0 with | some y0 => (match g y0 with | some x => some ⟨.int .i64 x, [], []⟩ | none => none) | none => none
  | _ => none
def s116 (g : (List Int) → Option Int) : Summ := ⟨[.sl 1], r116 g⟩
theorem r116_eq {g : (List Int) → Option Int} {y0 : List Int} {x : Int} (hx : g y0 = some x) : (s116 g).run [.sl y0.length (vI .i64 y0)] = some ⟨.int .i64 x, [], []⟩ := by
  show r116 g [.sl y0.length (vI .i64 y0)] = _
  simp only [r116, unI_vI, hx]
abbrev sums116 : List (Nat × Summ) := []
def head116_1 (l : List Int) (n1 : Int) : VM :=
  ⟨⟨116, 25, [(3, .int .i64 n1)], [.code k116_19, .inLoop k116_19, .inBlock 2, .code k116_23], [], false, none⟩, [], [(0, .row false (vI .i64 l))], 1⟩
def head116_2 (l : List Int) (n : Int) (i : Int) : VM :=
  ⟨⟨116, 25, [(0, .slice (some ⟨0, 0, none⟩) l.length 1), (3, .int .i64 n), (4, .int .i64 i)], [.code k116_10, .inLoop k116_10, .inBlock 0, .code k116_24], [], false, none⟩, [], [(0, .row false (vI .i64 l))], 1⟩
theorem loop116_1 (hS : SumsOK Try.prog (aget (sums116))) (l : List Int) (res : Int) : ∀ fuel (st : Int) (o : Int), iter (fun st => R03_Add_s1 l st) fuel st = some o → (o = res) →
    Leads Try.prog 116 1 (head116_1 l st) (fun v H _ => post116 res v H) := by
  intro fuel st o h hc
  refine iter_leads (head := fun st => head116_1 l st) (C := fun o => (o = res)) ?_ fuel st o h hc
  clear h hc o st fuel
  intro n1 o h hc
  replace h : R03_Add_s1 l n1 = some o := h
  show Leads Try.prog 116 1 (head116_1 l n1) (fun v H _ => post116 res v H)
  unfold R03_Add_s1 at h
  refine ev_ok tab_ok hS true 3000 ?_
  conv => whnf
  refine br.h2 h ?_ ?_ ?_
  · rfl
  · clear h; intro hb h; conv => whnf
    all_goals (cases h; cases hc)
    all_goals exact rfl
  clear h; intro hb h; conv => whnf
  let t : Int := wI .i64 ((n1.tmod 65536) + (wI .i64 (n1.tdiv 65536)))
  cases h; simp only [Sum.elim_inl, Sum.elim_inr, head116_1] at hc
  refine Leads.re hc [(0, 0)] rfl ?_ ?_ <;> (repeat' first | exact trivial | refine ⟨⟨_, rfl, rfl⟩, ?_⟩ | refine ⟨⟨_, _, rfl, rfl, .rowF (vI_flat _ _) id⟩, ?_⟩ | refine ⟨⟨_, _, rfl, rfl, .rowF (vS_flat _) id⟩, ?_⟩ | refine ⟨⟨_, _, rfl, rfl, .rowF (vB_flat _) id⟩, ?_⟩ | refine ⟨⟨_, _, rfl, rfl, .cells rfl⟩, ?_⟩ | refine ⟨⟨_, _, rfl, rfl, .row rfl id⟩, ?_⟩ | refine ⟨⟨_, _, rfl, rfl, .cr rfl⟩, ?_⟩ | refine ⟨⟨_, _, rfl, rfl, .rc rfl⟩, ?_⟩ | refine ⟨⟨_, _, rfl, rfl, .marks⟩, ?_⟩ | refine ⟨⟨_, _, rfl, rfl, .siter _ _⟩, ?_⟩ | refine ⟨⟨_, _, rfl, rfl, .loop rfl rfl rfl rfl (by repeat' first | exact trivial | refine ⟨rfl, ?_⟩) rfl rfl rfl rfl⟩, ?_⟩)
theorem loop116_2 (hS : SumsOK Try.prog (aget (sums116))) (l : List Int) (res : Int) : ∀ fuel (st : Int × Int) (o : Int), iter (fun st => R03_Add_s2 l st.1 st.2) fuel st = some o → (o = res) →
    Leads Try.prog 116 1 (head116_2 l st.1 st.2) (fun v H _ => post116 res v H) := by
  intro fuel st o h hc
  refine iter_leads (head := fun st => head116_2 l st.1 st.2) (C := fun o => (o = res)) ?_ fuel st o h hc
  clear h hc o st fuel
  intro st o h hc
  obtain ⟨n, i⟩ := st
  replace h : R03_Add_s2 l n i = some o := h
  show Leads Try.prog 116 1 (head116_2 l n i) (fun v H _ => post116 res v H)
  unfold R03_Add_s2 at h
  refine ev_ok tab_ok hS true 3000 ?_
  conv => whnf
  refine br.h2 h ?_ ?_ ?_
  · rfl
  · clear h; intro hb h; conv => whnf
    obtain ⟨y, hy, h2⟩ := obind.elim h; cases h2
    have hl := loop116_1 hS _ res _ _ _ hy hc; simp only [head116_1] at hl
    refine Leads.re hl [(0, 0)] rfl ?_ ?_ <;> (repeat' first | exact trivial | refine ⟨⟨_, rfl, rfl⟩, ?_⟩ | refine ⟨⟨_, _, rfl, rfl, .rowF (vI_flat _ _) id⟩, ?_⟩ | refine ⟨⟨_, _, rfl, rfl, .rowF (vS_flat _) id⟩, ?_⟩ | refine ⟨⟨_, _, rfl, rfl, .rowF (vB_flat _) id⟩, ?_⟩ | refine ⟨⟨_, _, rfl, rfl, .cells rfl⟩, ?_⟩ | refine ⟨⟨_, _, rfl, rfl, .row rfl id⟩, ?_⟩ | refine ⟨⟨_, _, rfl, rfl, .cr rfl⟩, ?_⟩ | refine ⟨⟨_, _, rfl, rfl, .rc rfl⟩, ?_⟩ | refine ⟨⟨_, _, rfl, rfl, .marks⟩, ?_⟩ | refine ⟨⟨_, _, rfl, rfl, .siter _ _⟩, ?_⟩ | refine ⟨⟨_, _, rfl, rfl, .loop rfl rfl rfl rfl (by repeat' first | exact trivial | refine ⟨rfl, ?_⟩) rfl rfl rfl rfl⟩, ?_⟩)
  clear h; intro hb h; conv => whnf
  replace h := oreq.elim h; have hb := h.1; replace h := h.2
  first | (refine req.intro hb ?_; conv => whnf) | skip
  obtain ⟨e, hy, h2⟩ := obind.elim h; clear h; have h := h2; clear h2
  refine rd.I hy (by first | rfl | (rw [Nat.zero_add, Nat.mul_one]; done) | omega) ?_
  conv => whnf
  cases h; simp only [Sum.elim_inl, Sum.elim_inr, head116_2] at hc
  refine Leads.re hc [(0, 0)] rfl ?_ ?_ <;> (repeat' first | exact trivial | refine ⟨⟨_, rfl, rfl⟩, ?_⟩ | refine ⟨⟨_, _, rfl, rfl, .rowF (vI_flat _ _) id⟩, ?_⟩ | refine ⟨⟨_, _, rfl, rfl, .rowF (vS_flat _) id⟩, ?_⟩ | refine ⟨⟨_, _, rfl, rfl, .rowF (vB_flat _) id⟩, ?_⟩ | refine ⟨⟨_, _, rfl, rfl, .cells rfl⟩, ?_⟩ | refine ⟨⟨_, _, rfl, rfl, .row rfl id⟩, ?_⟩ | refine ⟨⟨_, _, rfl, rfl, .cr rfl⟩, ?_⟩ | refine ⟨⟨_, _, rfl, rfl, .rc rfl⟩, ?_⟩ | refine ⟨⟨_, _, rfl, rfl, .marks⟩, ?_⟩ | refine ⟨⟨_, _, rfl, rfl, .siter _ _⟩, ?_⟩ | refine ⟨⟨_, _, rfl, rfl, .loop rfl rfl rfl rfl (by repeat' first | exact trivial | refine ⟨rfl, ?_⟩) rfl rfl rfl rfl⟩, ?_⟩)
theorem leads116 (hS : SumsOK Try.prog (aget (sums116))) (l : List Int) (res : Int) (h : R03_AddF l = some res) :
    Leads Try.prog 116 1 ⟨⟨116, 25, [(0, .slice (some ⟨0, 0, none⟩) l.length 1)], [.code k116_27], [], false, none⟩, [], [(0, .row false (vI .i64 l))], 1⟩ (fun v H _ => post116 res v H) := by
  unfold R03_AddF at h
  refine ev_ok tab_ok hS true 3000 ?_
  conv => whnf
  have hl := loop116_2 hS _ res _ _ _ h rfl; simp only [head116_2] at hl
  refine Leads.re hl [(0, 0)] rfl ?_ ?_ <;> (repeat' first | exact trivial | refine ⟨⟨_, rfl, rfl⟩, ?_⟩ | refine ⟨⟨_, _, rfl, rfl, .rowF (vI_flat _ _) id⟩, ?_⟩ | refine ⟨⟨_, _, rfl, rfl, .rowF (vS_flat _) id⟩, ?_⟩ | refine ⟨⟨_, _, rfl, rfl, .rowF (vB_flat _) id⟩, ?_⟩ | refine ⟨⟨_, _, rfl, rfl, .cells rfl⟩, ?_⟩ | refine ⟨⟨_, _, rfl, rfl, .row rfl id⟩, ?_⟩ | refine ⟨⟨_, _, rfl, rfl, .cr rfl⟩, ?_⟩ | refine ⟨⟨_, _, rfl, rfl, .rc rfl⟩, ?_⟩ | refine ⟨⟨_, _, rfl, rfl, .marks⟩, ?_⟩ | refine ⟨⟨_, _, rfl, rfl, .siter _ _⟩, ?_⟩ | refine ⟨⟨_, _, rfl, rfl, .loop rfl rfl rfl rfl (by repeat' first | exact trivial | refine ⟨rfl, ?_⟩) rfl rfl rfl rfl⟩, ?_⟩)
theorem ok116 (hS : SumsOK Try.prog (aget (sums116))) : SumOK Try.prog 116 (s116 (R03_AddF)) := by
  refine SumOK.of_leads tab_ok (fun ar r ha hr => ?_) ⟨Try.f116, rfl, by decide, rfl⟩
  simp only [s116] at ha hr
  unfold r116 at hr
  split at hr <;> try (cases hr; done)
  split at hr <;> try (cases hr; done)
  rename_i y0 ey0
  have ey0 := unI_eq ey0
  split at hr <;> cases hr
  rename_i x h
  subst ey0
  simp only [argsOK, vI_len, vB_len, vS_len, Nat.mul_one] at ha
  obtain ⟨hn0, -, -⟩ := ha
  subst hn0
  refine ⟨_, rfl, (leads116 hS _ x h).mono fun v H t hp => ?_⟩
  cases hp
  exact Res.val rfl trivial
def R03_Add : (List Int) → Option Int := R03_AddF
theorem lift116 : SumOK Try.prog 116 (s116 R03_Add) := ok116 (SumsOK.of_tab trivial)
end Go.Vm.Code

namespace Go.Vm.Code
open Go Go.Vm Go.Proofs
set_option maxRecDepth 100000
set_option maxHeartbeats 4000000
set_option linter.unusedVariables false

/-! cloakroom/cloakroomref03.Words -/
def R03_Words_s1 (R02_Must : (List UInt8) → Int → Int → Option Int) (s1 : List UInt8) (i : Int) (out1 : List Int) : Option (Sum ((List UInt8) × Int × (List Int)) (List Int)) :=
  cond (decide (i < (s1.length : Int)))
    (
    (R02_Must s1 i 2).bind fun m =>
    oreq (decide ((out1.length + 1) * 8 ≤ 2 ^ 47)) <|
    let row := out1 ++ [m]
    some (.inl (s1, wI .i64 (i + 2), row)))
    (
    some (.inr (out1)))
def R03_WordsF (R02_Must : (List UInt8) → Int → Int → Option Int) (s : List UInt8) : Option (List Int) :=
  cond (((s.length : Int).tmod 2) == 1)
    (
    oreq (decide (s.length + 1 < 2 ^ 63)) <|
    iter (fun st => R03_Words_s1 R02_Must st.1 st.2.1 st.2.2) FUEL (s ++ [0], 0, []))
    (
    iter (fun st => R03_Words_s1 R02_Must st.1 st.2.1 st.2.2) FUEL (s, 0, []))
def post117 (x : List Int) (v : Value) (H : Hp) : Prop := ∃ j, 0 ≤ j ∧ (aget H j = some (.row true (vI .i64 x)) ∨ aget H j = some (.cells (vI .i64 x))) ∧ v = .slice (some ⟨j, 0, none⟩) x.length 1
def r117 (g : (List UInt8) → Option (List Int)) : List SArg → Option SRes
  | [.v (.string ⟨⟨a0_1⟩⟩)] => match g a0_1 with | some x => some ⟨.slice (some ⟨0, 0, none⟩) x.length 1, [(vI .i64 x)], []⟩ | none => none
  | _ => none
def s117 (g : (List UInt8) → Option (List Int)) : Summ := ⟨[.v], r117 g⟩
theorem r117_eq {g : (List UInt8) → Option (List Int)} {a0_1 : List UInt8} {x : List Int} (hx : g a0_1 = some x) : (s117 g).run [.v (.string ⟨⟨a0_1⟩⟩)] = some ⟨.slice (some ⟨0, 0, none⟩) x.length 1, [(vI .i64 x)], []⟩ := by
  show r117 g [.v (.string ⟨⟨a0_1⟩⟩)] = _
  simp only [r117, hx]
abbrev sums117 (R02_Must : (List UInt8) → Int → Int → Option Int) : List (Nat × Summ) := [(79, s79 R02_Must)]
def head117_1 (s1 : List UInt8) (i : Int) (out1 : List Int) : VM :=
  ⟨⟨117, 24, [(0, .string ⟨⟨s1⟩⟩), (3, .slice (some ⟨0, 0, none⟩) out1.length 1), (4, .int .i64 i)], [.code k117_14, .inLoop k117_14, .inBlock 0, .code k117_19], [], false, none⟩, [], [(0, .row true (vI .i64 out1))], 1⟩
theorem loop117_1 (R02_Must : (List UInt8) → Int → Int → Option Int) (hS : SumsOK Try.prog (aget (sums117 R02_Must))) (res : List Int) : ∀ fuel (st : (List UInt8) × Int × (List Int)) (o : List Int), iter (fun st => R03_Words_s1 R02_Must st.1 st.2.1 st.2.2) fuel st = some o → (o = res) →
    Leads Try.prog 117 0 (head117_1 st.1 st.2.1 st.2.2) (fun v H _ => post117 res v H) := by
  intro fuel st o h hc
  refine iter_leads (head := fun st => head117_1 st.1 st.2.1 st.2.2) (C := fun o => (o = res)) ?_ fuel st o h hc
  clear h hc o st fuel
  intro st o h hc
  obtain ⟨s1, i, out1⟩ := st
  replace h : R03_Words_s1 R02_Must s1 i out1 = some o := h
  show Leads Try.prog 117 0 (head117_1 s1 i out1) (fun v H _ => post117 res v H)
  unfold R03_Words_s1 at h
  refine ev_ok tab_ok hS true 3000 ?_
  conv => whnf
  refine br.h2 h ?_ ?_ ?_
  · rfl
  · clear h; intro hb h; conv => whnf
    all_goals (cases h; cases hc)
    all_goals exact ⟨0, by omega, .inl rfl, rfl⟩
  clear h; intro hb h; conv => whnf
  obtain ⟨m, hy, h2⟩ := obind.elim h; clear h; have h := h2; clear h2
  refine sumK.introF [] (sumRun_of (aqs := [.v (.string ⟨⟨s1⟩⟩), .v (.int .i64 i), .v (.int .i64 2)]) (ra_cons rfl (ra_cons rfl (ra_cons rfl ra_nil))) (r79_eq hy) rfl rfl rfl rfl) ?_
  conv => whnf
  replace h := oreq.elim h; have hb := h.1; replace h := h.2
  refine req.intro (ap_req (of_decide_eq_true hb) (by first | rfl | (simp; done) | (simp; omega)) rfl (by first | rfl | (simp; done) | (simp; omega)) (by first | rfl | exact vI_one _ _ | exact vS_one _ | exact vB_one _ | simp [vI_one, vS_one, vB_one, vI_drop, vI_take, vS_drop, vS_take]) rfl) ?_
  conv => whnf
  let row : List Int := out1 ++ [m]
  refine pk_apI (xs := out1) (ys := [m]) rfl (by first | rfl | omega) (by first | (simp; done) | (simp; omega)) (by first | (simp; done) | (simp; omega)) ?_
  conv => whnf
  cases h; simp only [Sum.elim_inl, Sum.elim_inr, head117_1] at hc
  refine Leads.re hc [(0, 2)] rfl ?_ ?_ <;> (repeat' first | exact trivial | refine ⟨⟨_, rfl, rfl⟩, ?_⟩ | refine ⟨⟨_, _, rfl, rfl, .rowF (vI_flat _ _) id⟩, ?_⟩ | refine ⟨⟨_, _, rfl, rfl, .rowF (vS_flat _) id⟩, ?_⟩ | refine ⟨⟨_, _, rfl, rfl, .rowF (vB_flat _) id⟩, ?_⟩ | refine ⟨⟨_, _, rfl, rfl, .cells rfl⟩, ?_⟩ | refine ⟨⟨_, _, rfl, rfl, .row rfl id⟩, ?_⟩ | refine ⟨⟨_, _, rfl, rfl, .cr rfl⟩, ?_⟩ | refine ⟨⟨_, _, rfl, rfl, .rc rfl⟩, ?_⟩ | refine ⟨⟨_, _, rfl, rfl, .marks⟩, ?_⟩ | refine ⟨⟨_, _, rfl, rfl, .siter _ _⟩, ?_⟩ | refine ⟨⟨_, _, rfl, rfl, .loop rfl rfl rfl rfl (by repeat' first | exact trivial | refine ⟨rfl, ?_⟩) rfl rfl rfl rfl⟩, ?_⟩)
theorem leads117 (R02_Must : (List UInt8) → Int → Int → Option Int) (hS : SumsOK Try.prog (aget (sums117 R02_Must))) (s : List UInt8) (res : List Int) (h : R03_WordsF R02_Must s = some res) :
    Leads Try.prog 117 0 ⟨⟨117, 24, [(0, .string ⟨⟨s⟩⟩)], [.code k117_23], [], false, none⟩, [], [], 0⟩ (fun v H _ => post117 res v H) := by
  unfold R03_WordsF at h
  refine ev_ok tab_ok hS true 3000 ?_
  conv => whnf
  refine br.h2 h ?_ ?_ ?_
  · rfl
  · clear h; intro hb h; conv => whnf
    have hl := loop117_1 R02_Must hS res _ _ _ h rfl; simp only [head117_1] at hl
    refine Leads.nilT 3 1 ?_
    refine Leads.re hl [(0, 0)] rfl ?_ ?_ <;> (repeat' first | exact trivial | refine ⟨⟨_, rfl, rfl⟩, ?_⟩ | refine ⟨⟨_, _, rfl, rfl, .rowF (vI_flat _ _) id⟩, ?_⟩ | refine ⟨⟨_, _, rfl, rfl, .rowF (vS_flat _) id⟩, ?_⟩ | refine ⟨⟨_, _, rfl, rfl, .rowF (vB_flat _) id⟩, ?_⟩ | refine ⟨⟨_, _, rfl, rfl, .cells rfl⟩, ?_⟩ | refine ⟨⟨_, _, rfl, rfl, .row rfl id⟩, ?_⟩ | refine ⟨⟨_, _, rfl, rfl, .cr rfl⟩, ?_⟩ | refine ⟨⟨_, _, rfl, rfl, .rc rfl⟩, ?_⟩ | refine ⟨⟨_, _, rfl, rfl, .marks⟩, ?_⟩ | refine ⟨⟨_, _, rfl, rfl, .siter _ _⟩, ?_⟩ | refine ⟨⟨_, _, rfl, rfl, .loop rfl rfl rfl rfl (by repeat' first | exact trivial | refine ⟨rfl, ?_⟩) rfl rfl rfl rfl⟩, ?_⟩)
  clear h; intro hb h; conv => whnf
  replace h := oreq.elim h; have hb := h.1; replace h := h.2
  first | (refine req.intro hb ?_; conv => whnf) | skip
  have hl := loop117_1 R02_Must hS res _ _ _ h rfl; simp only [head117_1] at hl
  refine Leads.nilT 3 1 ?_
  refine Leads.re hl [(0, 0)] rfl ?_ ?_ <;> (repeat' first | exact trivial | refine ⟨⟨_, rfl, rfl⟩, ?_⟩ | refine ⟨⟨_, _, rfl, rfl, .rowF (vI_flat _ _) id⟩, ?_⟩ | refine ⟨⟨_, _, rfl, rfl, .rowF (vS_flat _) id⟩, ?_⟩ | refine ⟨⟨_, _, rfl, rfl, .rowF (vB_flat _) id⟩, ?_⟩ | refine ⟨⟨_, _, rfl, rfl, .cells rfl⟩, ?_⟩ | refine ⟨⟨_, _, rfl, rfl, .row rfl id⟩, ?_⟩ | refine ⟨⟨_, _, rfl, rfl, .cr rfl⟩, ?_⟩ | refine ⟨⟨_, _, rfl, rfl, .rc rfl⟩, ?_⟩ | refine ⟨⟨_, _, rfl, rfl, .marks⟩, ?_⟩ | refine ⟨⟨_, _, rfl, rfl, .siter _ _⟩, ?_⟩ | refine ⟨⟨_, _, rfl, rfl, .loop rfl rfl rfl rfl (by repeat' first | exact trivial | refine ⟨rfl, ?_⟩) rfl rfl rfl rfl⟩, ?_⟩)
theorem ok117 (R02_Must : (List UInt8) → Int → Int → Option Int) (hS : SumsOK Try.prog (aget (sums117 R02_Must))) : SumOK Try.prog 117 (s117 (R03_WordsF R02_Must)) := by
  refine SumOK.of_leads tab_ok (fun ar r ha hr => ?_) ⟨Try.f117, rfl, by decide, rfl⟩
  simp only [s117] at ha hr
  unfold r117 at hr
  split at hr <;> try (cases hr; done)
  split at hr <;> cases hr
  rename_i x h
  refine ⟨_, rfl, (leads117 R02_Must hS _ x h).mono fun v H t hp => ?_⟩
  obtain ⟨j, hj, hc, hp⟩ := hp
  cases hp
  exact Res.one j rfl hc trivial hj
def R03_Words : (List UInt8) → Option (List Int) := R03_WordsF R02_Must
theorem lift117 : SumOK Try.prog 117 (s117 R03_Words) := ok117 R02_Must (SumsOK.of_tab ⟨lift79, trivial⟩)
end Go.Vm.Code

namespace Go.Vm.Code
open Go Go.Vm Go.Proofs
set_option maxRecDepth 100000
set_option maxHeartbeats 4000000
set_option linter.unusedVariables false

/-! cloakroom/cloakroomref03.Sum -/
def R03_SumF (R03_Add : (List Int) → Option Int) (R03_Words : (List UInt8) → Option (List Int)) (s : List UInt8) : Option Int :=
  (R03_Words s).bind fun w =>
  (R03_Add w).bind fun a =>
  some (a)
def post89 (x : Int) (v : Value) (H : Hp) : Prop := v = .int .i64 x
def r89 (g : (List UInt8) → Option Int) : List SArg → Option SRes
  | [.v (.string ⟨⟨a0_1⟩⟩)] => match g a0_1 with | some x => some ⟨.int .i64 x, [], []⟩ | none => none
  | _ => none
def s89 (g : (List UInt8) → Option Int) : Summ := ⟨[.v], r89 g⟩
theorem r89_eq {g : (List UInt8) → Option Int} {a0_1 : List UInt8} {x : Int} (hx : g a0_1 = some x) : (s89 g).run [.v (.string ⟨⟨a0_1⟩⟩)] = some ⟨.int .i64 x, [], []⟩ := by
  show r89 g [.v (.string ⟨⟨a0_1⟩⟩)] = _
  simp only [r89, hx]
abbrev sums89 (R03_Add : (List Int) → Option Int) (R03_Words : (List UInt8) → Option (List Int)) : List (Nat × Summ) := [(116, s116 R03_Add), (117, s117 R03_Words)]
theorem leads89 (R03_Add : (List Int) → Option Int) (R03_Words : (List UInt8) → Option (List Int)) (hS : SumsOK Try.prog (aget (sums89 R03_Add R03_Words))) (s : List UInt8) (res : Int) (h : R03_SumF R03_Add R03_Words s = some res) :
    Leads Try.prog 89 0 ⟨⟨89, 6, [(0, .string ⟨⟨s⟩⟩)], [.code k89_3], [], false, none⟩, [], [], 0⟩ (fun v H _ => post89 res v H) := by
  unfold R03_SumF at h
  refine ev_ok tab_ok hS true 3000 ?_
  conv => whnf
  obtain ⟨w, hy, h2⟩ := obind.elim h; clear h; have h := h2; clear h2
  refine sumK.introF [] (sumRun_of (aqs := [.v (.string ⟨⟨s⟩⟩)]) (ra_cons rfl ra_nil) (r117_eq hy) rfl rfl (by first | rfl | exact addNew_I | exact addNew_B | exact addNew_S) rfl) ?_
  conv => whnf
  obtain ⟨a, hy, h2⟩ := obind.elim h; clear h; have h := h2; clear h2
  refine sumK.introF [] (sumRun_of (aqs := [.sl (w : List Int).length (vI .i64 w)]) (ra_cons (by first | rfl | exact ra_allI rfl rfl (by first | rfl | omega) (by first | rfl | (simp; done)) | exact ra_slI rfl rfl (by first | rfl | omega) (by first | rfl | omega) (by first | omega | (simp at *; omega))) ra_nil) (r116_eq hy) rfl rfl rfl rfl) ?_
  conv => whnf
  all_goals (cases h)
  all_goals exact rfl
theorem ok89 (R03_Add : (List Int) → Option Int) (R03_Words : (List UInt8) → Option (List Int)) (hS : SumsOK Try.prog (aget (sums89 R03_Add R03_Words))) : SumOK Try.prog 89 (s89 (R03_SumF R03_Add R03_Words)) := by
  refine SumOK.of_leads tab_ok (fun ar r ha hr => ?_) ⟨Try.f89, rfl, by decide, rfl⟩
  simp only [s89] at ha hr
  unfold r89 at hr
  split at hr <;> try (cases hr; done)
  split at hr <;> cases hr
  rename_i x h
  refine ⟨_, rfl, (leads89 R03_Add R03_Words hS _ x h).mono fun v H t hp => ?_⟩
  cases hp
  exact Res.val rfl trivial
def R03_Sum : (List UInt8) → Option Int := R03_SumF R03_Add R03_Words
theorem lift89 : SumOK Try.prog 89 (s89 R03_Sum) := ok89 R03_Add R03_Words (SumsOK.of_tab ⟨lift116, lift117, trivial⟩)
end Go.Vm.Code

namespace Go.Vm.Code
open Go Go.Vm Go.Proofs
set_option maxRecDepth 100000
set_option maxHeartbeats 4000000
set_option linter.unusedVariables false

/-! cloakroom/cloakroomref03.Of -/
def R03_OfF (R03_Sum : (List UInt8) → Option Int) (s : List UInt8) : Option Int :=
  (R03_Sum s).bind fun s1 =>
  some (wI .i64 (65535 - s1))
def post86 (x : Int) (v : Value) (H : Hp) : Prop := v = .int .i64 x
def r86 (g : (List UInt8) → Option Int) : List SArg → Option SRes
  | [.v (.string ⟨⟨a0_1⟩⟩)] => match g a0_1 with | some x => some ⟨.int .i64 x, [], []⟩ | none => none
  | _ => none
def s86 (g : (List UInt8) → Option Int) : Summ := ⟨[.v], r86 g⟩
theorem r86_eq {g : (List UInt8) → Option Int} {a0_1 : List UInt8} {x : Int} (hx : g a0_1 = some x) : (s86 g).run [.v (.string ⟨⟨a0_1⟩⟩)] = some ⟨.int .i64 x, [], []⟩ := by
  show r86 g [.v (.string ⟨⟨a0_1⟩⟩)] = _
  simp only [r86, hx]
abbrev sums86 (R03_Sum : (List UInt8) → Option Int) : List (Nat × Summ) := [(89, s89 R03_Sum)]
theorem leads86 (R03_Sum : (List UInt8) → Option Int) (hS : SumsOK Try.prog (aget (sums86 R03_Sum))) (s : List UInt8) (res : Int) (h : R03_OfF R03_Sum s = some res) :
    Leads Try.prog 86 0 ⟨⟨86, 6, [(0, .string ⟨⟨s⟩⟩)], [.code k86_3], [], false, none⟩, [], [], 0⟩ (fun v H _ => post86 res v H) := by
  unfold R03_OfF at h
  refine ev_ok tab_ok hS true 3000 ?_
  conv => whnf
  obtain ⟨s1, hy, h2⟩ := obind.elim h; clear h; have h := h2; clear h2
  refine sumK.introF [] (sumRun_of (aqs := [.v (.string ⟨⟨s⟩⟩)]) (ra_cons rfl ra_nil) (r89_eq hy) rfl rfl rfl rfl) ?_
  conv => whnf
  all_goals (cases h)
  all_goals exact rfl
theorem ok86 (R03_Sum : (List UInt8) → Option Int) (hS : SumsOK Try.prog (aget (sums86 R03_Sum))) : SumOK Try.prog 86 (s86 (R03_OfF R03_Sum)) := by
  refine SumOK.of_leads tab_ok (fun ar r ha hr => ?_) ⟨Try.f86, rfl, by decide, rfl⟩
  simp only [s86] at ha hr
  unfold r86 at hr
  split at hr <;> try (cases hr; done)
  split at hr <;> cases hr
  rename_i x h
  refine ⟨_, rfl, (leads86 R03_Sum hS _ x h).mono fun v H t hp => ?_⟩
  cases hp
  exact Res.val rfl trivial
def R03_Of : (List UInt8) → Option Int := R03_OfF R03_Sum
theorem lift86 : SumOK Try.prog 86 (s86 R03_Of) := ok86 R03_Sum (SumsOK.of_tab ⟨lift89, trivial⟩)
end Go.Vm.Code

namespace Go.Vm.Code
open Go Go.Vm Go.Proofs
set_option maxRecDepth 100000
set_option maxHeartbeats 4000000
set_option linter.unusedVariables false

/-! cloakroom/check.Of -/
def check_OfF (check_Sum : (List UInt8) → Option Int) (s : List UInt8) : Option Int :=
  (check_Sum s).bind fun s1 =>
  some (wI .i64 (65535 - s1))
def post84 (x : Int) (v : Value) (H : Hp) : Prop := v = .int .i64 x
def r84 (g : (List UInt8) → Option Int) : List SArg → Option SRes
  | [.v (.string ⟨⟨a0_1⟩⟩)] => match g a0_1 with | some x => some ⟨.int .i64 x, [], []⟩ | none => none
  | _ => none
def s84 (g : (List UInt8) → Option Int) : Summ := ⟨[.v], r84 g⟩
theorem r84_eq {g : (List UInt8) → Option Int} {a0_1 : List UInt8} {x : Int} (hx : g a0_1 = some x) : (s84 g).run [.v (.string ⟨⟨a0_1⟩⟩)] = some ⟨.int .i64 x, [], []⟩ := by
  show r84 g [.v (.string ⟨⟨a0_1⟩⟩)] = _
  simp only [r84, hx]
abbrev sums84 (check_Sum : (List UInt8) → Option Int) : List (Nat × Summ) := [(114, s114 check_Sum)]
theorem leads84 (check_Sum : (List UInt8) → Option Int) (hS : SumsOK Try.prog (aget (sums84 check_Sum))) (s : List UInt8) (res : Int) (h : check_OfF check_Sum s = some res) :
    Leads Try.prog 84 0 ⟨⟨84, 6, [(0, .string ⟨⟨s⟩⟩)], [.code k84_3], [], false, none⟩, [], [], 0⟩ (fun v H _ => post84 res v H) := by
  unfold check_OfF at h
  refine ev_ok tab_ok hS true 3000 ?_
  conv => whnf
  obtain ⟨s1, hy, h2⟩ := obind.elim h; clear h; have h := h2; clear h2
  refine sumK.introF [] (sumRun_of (aqs := [.v (.string ⟨⟨s⟩⟩)]) (ra_cons rfl ra_nil) (r114_eq hy) rfl rfl rfl rfl) ?_
  conv => whnf
  all_goals (cases h)
  all_goals exact rfl
theorem ok84 (check_Sum : (List UInt8) → Option Int) (hS : SumsOK Try.prog (aget (sums84 check_Sum))) : SumOK Try.prog 84 (s84 (check_OfF check_Sum)) := by
  refine SumOK.of_leads tab_ok (fun ar r ha hr => ?_) ⟨Try.f84, rfl, by decide, rfl⟩
  simp only [s84] at ha hr
  unfold r84 at hr
  split at hr <;> try (cases hr; done)
  split at hr <;> cases hr
  rename_i x h
  refine ⟨_, rfl, (leads84 check_Sum hS _ x h).mono fun v H t hp => ?_⟩
  cases hp
  exact Res.val rfl trivial
def check_Of : (List UInt8) → Option Int := check_OfF check_Sum
theorem lift84 : SumOK Try.prog 84 (s84 check_Of) := ok84 check_Sum (SumsOK.of_tab ⟨lift114, trivial⟩)
end Go.Vm.Code

namespace Go.Vm.Code
open Go Go.Vm Go.Proofs
set_option maxRecDepth 100000
set_option maxHeartbeats 4000000
set_option linter.unusedVariables false

/-! cloakroom/check.Right -/
def check_RightF (check_Sum : (List UInt8) → Option Int) (s : List UInt8) : Option Bool :=
  (check_Sum s).bind fun s1 =>
  some (s1 == 65535)
def post88 (x : Bool) (v : Value) (H : Hp) : Prop := v = .bool x
def r88 (g : (List UInt8) → Option Bool) : List SArg → Option SRes
  | [.v (.string ⟨⟨a0_1⟩⟩)] => match g a0_1 with | some x => some ⟨.bool x, [], []⟩ | none => none
  | _ => none
def s88 (g : (List UInt8) → Option Bool) : Summ := ⟨[.v], r88 g⟩
theorem r88_eq {g : (List UInt8) → Option Bool} {a0_1 : List UInt8} {x : Bool} (hx : g a0_1 = some x) : (s88 g).run [.v (.string ⟨⟨a0_1⟩⟩)] = some ⟨.bool x, [], []⟩ := by
  show r88 g [.v (.string ⟨⟨a0_1⟩⟩)] = _
  simp only [r88, hx]
abbrev sums88 (check_Sum : (List UInt8) → Option Int) : List (Nat × Summ) := [(114, s114 check_Sum)]
theorem leads88 (check_Sum : (List UInt8) → Option Int) (hS : SumsOK Try.prog (aget (sums88 check_Sum))) (s : List UInt8) (res : Bool) (h : check_RightF check_Sum s = some res) :
    Leads Try.prog 88 0 ⟨⟨88, 6, [(0, .string ⟨⟨s⟩⟩)], [.code k88_3], [], false, none⟩, [], [], 0⟩ (fun v H _ => post88 res v H) := by
  unfold check_RightF at h
  refine ev_ok tab_ok hS true 3000 ?_
  conv => whnf
  obtain ⟨s1, hy, h2⟩ := obind.elim h; clear h; have h := h2; clear h2
  refine sumK.introF [] (sumRun_of (aqs := [.v (.string ⟨⟨s⟩⟩)]) (ra_cons rfl ra_nil) (r114_eq hy) rfl rfl rfl rfl) ?_
  conv => whnf
  all_goals (cases h)
  all_goals exact rfl
theorem ok88 (check_Sum : (List UInt8) → Option Int) (hS : SumsOK Try.prog (aget (sums88 check_Sum))) : SumOK Try.prog 88 (s88 (check_RightF check_Sum)) := by
  refine SumOK.of_leads tab_ok (fun ar r ha hr => ?_) ⟨Try.f88, rfl, by decide, rfl⟩
  simp only [s88] at ha hr
  unfold r88 at hr
  split at hr <;> try (cases hr; done)
  split at hr <;> cases hr
  rename_i x h
  refine ⟨_, rfl, (leads88 check_Sum hS _ x h).mono fun v H t hp => ?_⟩
  cases hp
  exact Res.val rfl trivial
def check_Right : (List UInt8) → Option Bool := check_RightF check_Sum
theorem lift88 : SumOK Try.prog 88 (s88 check_Right) := ok88 check_Sum (SumsOK.of_tab ⟨lift114, trivial⟩)
end Go.Vm.Code

/- Chapter 3 in plain words: the other functions. -/
namespace Go.Vm.Code
open Go Go.Vm

theorem getS_two {s : List UInt8} {i : Nat} (h : i + 1 < s.length) : getS s (i : Int) 2 = (((s[i].toNat * 256 + s[i + 1].toNat : Nat) : Int), true) := by
  unfold getS
  rw [if_pos (by omega)]
  have e : (s.drop (i : Int).toNat).take (2 : Int).toNat = [s[i], s[i + 1]] := by
    show (s.drop i).take 2 = _
    rw [List.drop_eq_getElem_cons (by omega : i < s.length), List.drop_eq_getElem_cons h]; rfl
  rw [e]; simp [val_cons]
/-- the words of bytes -/
def wordsL : List UInt8 → List Int
  | [] => []
  | [b] => [((b.toNat * 256 : Nat) : Int)]
  | b :: c :: l => ((b.toNat * 256 + c.toNat : Nat) : Int) :: wordsL l
theorem wordsL_two {s : List UInt8} {i : Nat} (h : i + 1 < s.length) : wordsL (s.drop i) = ((s[i].toNat * 256 + s[i + 1].toNat : Nat) : Int) :: wordsL (s.drop (i + 2)) := by
  rw [List.drop_eq_getElem_cons (by omega : i < s.length), List.drop_eq_getElem_cons h]; rfl
theorem wordsL_pad : ∀ s : List UInt8, s.length % 2 = 1 → wordsL (s ++ [0]) = wordsL s
  | [], h => by simp at h
  | [b], _ => by
    show [((b.toNat * 256 + 0 : Nat) : Int)] = [((b.toNat * 256 : Nat) : Int)]
    rw [Nat.add_zero]
  | b :: c :: l, h => by
    have := wordsL_pad l (by simp at h; omega)
    simp only [List.cons_append, wordsL, this]
theorem wordsL_sum : ∀ s : List UInt8, (wordsL s).sum = (wsum s : Int)
  | [] => rfl
  | [b] => by simp only [wordsL, wsum, List.sum_cons, List.sum_nil, Int.add_zero]
  | b :: c :: l => by
    have := wordsL_sum l
    simp only [wordsL, wsum, List.sum_cons, this]; omega
theorem wordsL_rng : ∀ s : List UInt8, ∀ e ∈ wordsL s, 0 ≤ e ∧ e ≤ 65535
  | [], e, h => by simp [wordsL] at h
  | [b], e, h => by simp [wordsL] at h; have := b.toNat_lt; omega
  | b :: c :: l, e, h => by
    simp only [wordsL, List.mem_cons] at h
    rcases h with rfl | h
    · have := b.toNat_lt; have := c.toNat_lt; omega
    · exact wordsL_rng l e h
theorem wordsL_len : ∀ s : List UInt8, (wordsL s).length = (s.length + 1) / 2
  | [] => rfl
  | [b] => by simp [wordsL]
  | b :: c :: l => by
    have := wordsL_len l
    simp only [wordsL, List.length_cons, this]; omega

theorem R03_Words_loop {s : List UInt8} (h : s.length < 2 ^ 40) (he : s.length % 2 = 0) : iter (fun (st : List UInt8 × Int × List Int) => R03_Words_s1 R02_Must st.1 st.2.1 st.2.2) FUEL (s, 0, []) = some (wordsL s) := by
  have key := iter_eq (step := fun (st : List UInt8 × Int × List Int) => R03_Words_s1 R02_Must st.1 st.2.1 st.2.2) (fun st => st.2.2 ++ wordsL (s.drop st.2.1.toNat)) (fun st => st.1 = s ∧ ∃ i : Nat, st.2.1 = i ∧ i % 2 = 0 ∧ i ≤ s.length ∧ st.2.2.length ≤ i) (fun st => (s.length - st.2.1).toNat) ?_ FUEL (s, 0, []) ⟨rfl, 0, rfl, by omega, by omega, by simp⟩ (by rw [FUEL_eq]; simp only; omega)
  · rw [key]; simp
  rintro ⟨s1, p, out⟩ ⟨h1, i, h2, h3, h4, h5⟩
  simp only at h1 h2 h5 ⊢
  subst h1 h2
  unfold R03_Words_s1
  by_cases hi : i < s1.length
  · have hi2 : i + 1 < s1.length := by omega
    refine .inr ⟨(s1, ((i + 2 : Nat) : Int), out ++ [((s1[i].toNat * 256 + s1[i + 1].toNat : Nat) : Int)]), ?_, ⟨rfl, i + 2, rfl, by omega, by omega, by simp; omega⟩, by simp only; omega, ?_⟩
    · have b1 := s1[i].toNat_lt
      have b2 := s1[i + 1].toNat_lt
      rw [cond_p (by omega), R02_Must_eq (by omega), getS_two hi2, Option.bind_some, oreq_p (by omega), wI64 (by omega) (by omega), wI64 (by omega) (by omega)]; rfl
    · simp only [Int.toNat_natCast]
      rw [wordsL_two hi2]; simp
  · refine .inl ?_
    rw [cond_n (by omega)]
    simp [List.drop_eq_nil_of_le (by omega : s1.length ≤ i), wordsL]
theorem R03_Words_eq {s : List UInt8} (h : s.length < 2 ^ 39) : R03_Words s = some (wordsL s) := by
  unfold R03_Words R03_WordsF
  have ea : ((s.length : Int).tmod 2 == 1) = decide (s.length % 2 = 1) := by
    rw [Int.tmod_eq_emod_of_nonneg (by omega), Bool.eq_iff_iff, beq_iff_eq, decide_eq_true_eq]; omega
  rw [ea]
  by_cases h2 : s.length % 2 = 1
  · rw [cond_p h2, oreq_p (by omega), R03_Words_loop (by simp only [List.length_append, List.length_cons, List.length_nil]; omega) (by simp only [List.length_append, List.length_cons, List.length_nil]; omega), wordsL_pad s h2]
  · rw [cond_n h2, R03_Words_loop (by omega) (by omega)]
theorem R03_Add1_eq {l : List Int} {n : Int} (h0 : 0 ≤ n) (h1 : n < 2 ^ 62) : iter (fun st => R03_Add_s1 l st) FUEL n = some ((norm n.toNat : Nat) : Int) := by
  refine iter_eq (fun n => ((norm n.toNat : Nat) : Int)) (fun n => 0 ≤ n ∧ n < 2 ^ 62) (fun n => n.toNat) ?_ FUEL _ ⟨h0, h1⟩ (by rw [FUEL_eq]; omega)
  intro s ⟨a, b⟩
  unfold R03_Add_s1
  by_cases hs : s > 65535
  · refine .inr ⟨s % 65536 + s / 65536, ?_, ⟨by omega, by omega⟩, by omega, ?_⟩
    · rw [cond_p hs, Int.tdiv_eq_ediv_of_nonneg a, Int.tmod_eq_emod_of_nonneg a, wI64 (n := s / 65536) (by omega) (by omega), wI64 (by omega) (by omega)]
    · have : norm (s % 65536 + s / 65536).toNat = norm s.toNat :=
        (norm_eq (norm_le _) (by have := norm_mod (s % 65536 + s / 65536).toNat; omega) (by have := norm_zero (s % 65536 + s / 65536).toNat; omega)).symm
      rw [this]
  · refine .inl ?_
    rw [cond_n hs]
    have := norm_same (n := s.toNat) (by omega)
    simp only [this]
    rw [Int.toNat_of_nonneg a]
theorem sum_nonneg : ∀ {l : List Int}, (∀ e ∈ l, 0 ≤ e ∧ e ≤ 65535) → 0 ≤ l.sum
  | [], _ => by simp
  | x :: l, h => by
    have h1 := h x (by simp)
    have h2 := sum_nonneg (l := l) fun e he => h e (by simp [he])
    simp only [List.sum_cons]; omega
theorem R03_Add_eq {l : List Int} (hl : l.length < 2 ^ 40) (hr : ∀ e ∈ l, 0 ≤ e ∧ e ≤ 65535) : R03_Add l = some ((norm l.sum.toNat : Nat) : Int) := by
  unfold R03_Add R03_AddF
  have key := iter_eq (step := fun (st : Int × Int) => R03_Add_s2 l st.1 st.2) (fun st => ((norm (st.1 + (l.drop st.2.toNat).sum).toNat : Nat) : Int)) (fun st => 0 ≤ st.1 ∧ 0 ≤ st.2 ∧ st.2 ≤ l.length ∧ st.1 ≤ st.2 * 65535) (fun st => (l.length - st.2).toNat) ?_ FUEL (0, 0) ⟨by simp, by simp, by simp, by simp⟩ (by rw [FUEL_eq]; simp only; omega)
  · rw [key]; simp
  rintro ⟨n, p⟩ ⟨g1, g2, g3, g4⟩
  simp only at g1 g2 g3 g4 ⊢
  obtain ⟨i, rfl⟩ := Int.eq_ofNat_of_zero_le g2
  simp only [Int.toNat_natCast]
  unfold R03_Add_s2
  by_cases hi : i < l.length
  · have hx := hr l[i] (List.getElem_mem hi)
    refine .inr ⟨(n + l[i], ((i + 1 : Nat) : Int)), ?_, ⟨by simp only; omega, by simp only; omega, by simp only; omega, by simp only; omega⟩, by simp only; omega, ?_⟩
    · simp (disch := omega) only [cond_p, oreq_p, Int.toNat_natCast, List.getElem?_eq_getElem, Option.bind_some, wI64]; rfl
    · simp only [Int.toNat_natCast]
      rw [List.drop_eq_getElem_cons hi, List.sum_cons, Int.add_assoc]
  · refine .inl ?_
    rw [cond_n (by omega), R03_Add1_eq g1 (by omega), List.drop_eq_nil_of_le (by omega)]
    simp
theorem R03_Sum_eq {s : List UInt8} (h : s.length < 2 ^ 39) : R03_Sum s = some ((norm (wsum s) : Nat) : Int) := by
  unfold R03_Sum R03_SumF
  rw [R03_Words_eq h, Option.bind_some, R03_Add_eq (by rw [wordsL_len]; omega) (wordsL_rng s), wordsL_sum]; rfl

/-- a number put into bytes -/
def setS (s : List UInt8) (p k n : Int) : List UInt8 := if 1 ≤ k ∧ k ≤ 8 ∧ 0 ≤ p ∧ p + k ≤ s.length then s.take p.toNat ++ be n.toNat k.toNat ++ s.drop (p + k).toNat else s
theorem Set_eq {s : List UInt8} {p k n : Int} (hs : s.length < 2 ^ 40) (hn : 0 ≤ n) : check_Set s p k n = some (setS s p k n) := by
  unfold check_Set check_SetF setS
  rw [octet_Put_eq hn, Option.bind_some]
  unfold putS
  by_cases hk : 1 ≤ k ∧ k ≤ 8
  · rw [if_pos hk]
    have e : (be n.toNat k.toNat == []) = false := by
      rw [beq_eq_false_iff_ne]; intro h; have := congrArg List.length h; simp at this; omega
    rw [e, cond_false]
    by_cases h1 : p < 0
    · rw [cond_p h1, if_neg (by omega)]
    rw [cond_n h1, wI64 (n := (s.length : Int) - k) (by omega) (by omega)]
    by_cases h2 : (s.length : Int) - k < p
    · simp only []
      rw [cond_p h2, if_neg (by omega)]
    simp only []
    have e1 : (p + k).toNat = p.toNat + k.toNat := by omega
    have e2 : ((s.drop (p + k).toNat).take (s.length - (p + k).toNat)) = s.drop (p + k).toNat := List.take_of_length_le (by simp)
    rw [cond_n h2, oreq_p (by omega), wI64 (n := p + k) (by omega) (by omega), e2, oreq_p (by simp; omega), oreq_p (by omega), oreq_p (by simp; omega), if_pos (by omega)]
  · rw [if_neg hk, if_neg (by omega)]; rfl
theorem R03_Set_eq {s : List UInt8} {p k n : Int} (hs : s.length < 2 ^ 40) (hn : 0 ≤ n) (hn2 : n < 2 ^ 64) : R03_Set s p k n = some (setS s p k n) := by
  unfold R03_Set R03_SetF setS
  rw [R02_Get_eq (by omega), Option.bind_some]
  unfold getS
  by_cases hc : 1 ≤ k ∧ k ≤ 8 ∧ 0 ≤ p ∧ p + k ≤ s.length
  · rw [if_pos hc, if_pos hc]
    have e2 : ((s.drop (p + k).toNat).take (s.length - (p + k).toNat)) = s.drop (p + k).toNat := List.take_of_length_le (by simp)
    simp only [Bool.not_true, cond_false]
    rw [R02_Put_eq hn hn2, Option.bind_some, oreq_p (by omega), wI64 (n := p + k) (by omega) (by omega), e2]
    unfold putS
    rw [if_pos (by omega), oreq_p (by simp; omega), oreq_p (by omega), oreq_p (by simp; omega)]
  · rw [if_neg hc, if_neg hc]; rfl
theorem Of_eq {s : List UInt8} (h : s.length < 2 ^ 39) : check_Of s = some (65535 - ((norm (wsum s) : Nat) : Int)) := by
  unfold check_Of check_OfF
  have := norm_le (wsum s)
  rw [sum_eq s (by omega), Option.bind_some, wI64 (by omega) (by omega)]
theorem R03_Of_eq {s : List UInt8} (h : s.length < 2 ^ 39) : R03_Of s = some (65535 - ((norm (wsum s) : Nat) : Int)) := by
  unfold R03_Of R03_OfF
  have := norm_le (wsum s)
  rw [R03_Sum_eq h, Option.bind_some, wI64 (by omega) (by omega)]
theorem Right_eq {s : List UInt8} (h : s.length < 2 ^ 39) : check_Right s = some (((norm (wsum s) : Nat) : Int) == 65535) := by
  unfold check_Right check_RightF
  rw [sum_eq s (by omega), Option.bind_some]
end Go.Vm.Code

/- Bytes replaced, and their sums: plain words. -/
namespace Go.Vm.Code
open Go Go.Vm

/-- bytes with some of them replaced -/
def sset (s : List UInt8) (p k n : Nat) : List UInt8 := s.take p ++ be n k ++ s.drop (p + k)
theorem sset_len {s : List UInt8} {p k n : Nat} (h : p + k ≤ s.length) : (sset s p k n).length = s.length := by simp [sset]; omega
theorem Set_sset {s : List UInt8} {p k : Nat} {n : Int} (hs : s.length < 2 ^ 40) (hn : 0 ≤ n) (h1 : 1 ≤ k) (h8 : k ≤ 8) (h : p + k ≤ s.length) : check_Set s (p : Int) (k : Int) n = some (sset s p k n.toNat) := by
  rw [Set_eq hs hn]; unfold setS
  rw [if_pos (by omega)]
  have e : ((p : Int) + k).toNat = p + k := by omega
  rw [e]; rfl
theorem sset_get {s : List UInt8} {p k n y : Nat} (h : p + k ≤ s.length) : (sset s p k n)[y]? = if y < p then s[y]? else if y < p + k then (be n k)[y - p]? else s[y]? := by
  unfold sset
  rw [List.append_assoc, List.getElem?_append]
  have e1 : (s.take p).length = p := by simp; omega
  rw [e1]
  by_cases h1 : y < p
  · rw [if_pos h1, if_pos h1, List.getElem?_take_of_lt h1]
  · rw [if_neg h1, if_neg h1, List.getElem?_append, be_len]
    by_cases h2 : y < p + k
    · rw [if_pos (by omega), if_pos h2]
    · rw [if_neg (by omega), if_neg h2, List.getElem?_drop]
      congr 1; omega
theorem slice_get {l : List UInt8} {q m x : Nat} : ((l.drop q).take m)[x]? = if x < m then l[q + x]? else none := by
  rw [List.getElem?_take]; split
  · rw [List.getElem?_drop]
  · rfl
theorem slice_same {s : List UInt8} {p k n : Nat} (h : p + k ≤ s.length) : ((sset s p k n).drop p).take k = be n k := by
  apply List.ext_getElem?
  intro x
  rw [slice_get, sset_get h]
  split
  · rw [if_neg (by omega), if_pos (by omega), Nat.add_sub_cancel_left]
  · rw [List.getElem?_eq_none (by simp; omega)]
theorem slice_other {s : List UInt8} {p k n q m : Nat} (h : p + k ≤ s.length) (ho : q + m ≤ p ∨ p + k ≤ q) : ((sset s p k n).drop q).take m = (s.drop q).take m := by
  apply List.ext_getElem?
  intro x
  rw [slice_get, slice_get]
  split
  · rw [sset_get h]
    by_cases h1 : q + x < p
    · rw [if_pos h1]
    · rw [if_neg h1, if_neg (by omega)]
  · rfl
theorem wsum_cut {s : List UInt8} {p k : Nat} (h : p + k ≤ s.length) (hp : p % 2 = 0) (hk : k % 2 = 0) : wsum s = wsum (s.take p) + (wsum ((s.drop p).take k) + wsum (s.drop (p + k))) := by
  rw [← List.drop_drop, ← wsum_append _ _ (by rw [List.length_take, List.length_drop]; omega), List.take_append_drop, ← wsum_append _ _ (by rw [List.length_take]; omega), List.take_append_drop]
theorem wsum_sset {s : List UInt8} {p k n : Nat} (h : p + k ≤ s.length) (hp : p % 2 = 0) (hk : k % 2 = 0) : wsum (sset s p k n) + wsum ((s.drop p).take k) = wsum s + wsum (be n k) := by
  rw [wsum_cut h hp hk]
  unfold sset
  rw [List.append_assoc, wsum_append _ _ (by rw [List.length_take]; omega), wsum_append _ _ (by rw [be_len]; omega)]
  omega
theorem wsum_be2 {n : Nat} (h : n < 65536) : wsum (be n 2) = n := by
  have e : be n 2 = [UInt8.ofNat (n / 256), UInt8.ofNat n] := by simp [be]
  rw [e, wsum, wsum]
  simp only [UInt8.toNat_ofNat']
  omega
theorem norm_zero_mod {n : Nat} (h : n % 65535 = 0) (h0 : n ≠ 0) : norm n = 65535 := norm_eq (by omega) (by omega) (by omega)
end Go.Vm.Code

namespace Go.Vm.Code
open Go Go.Vm Go.Proofs
set_option maxRecDepth 100000
set_option maxHeartbeats 4000000
set_option linter.unusedVariables false

/-! (*cloakroom/octet.Reader).Bad -/
def octet_Reader_BadF (ra0 : octet_Reader) : Option (Bool × octet_Reader) :=
  cond (!ra0.made)
    (
    some ((true, ra0)))
    (
    some ((ra0.bad, ra0)))
def post74 (x : Bool × octet_Reader) (v : Value) (H : Hp) : Prop := v = .bool x.1 ∧ aget H 0 = some (.cells [.string ⟨⟨x.2.s⟩⟩, .bool x.2.made, .bool x.2.bad])
def r74 (g : octet_Reader → Option (Bool × octet_Reader)) : List SArg → Option SRes
  | [.pt [.string ⟨⟨a0_1⟩⟩, .bool a0_2, .bool a0_3]] => match g (octet_Reader.mk a0_1 a0_2 a0_3) with | some x => some ⟨.bool x.1, [], [[.string ⟨⟨x.2.s⟩⟩, .bool x.2.made, .bool x.2.bad]]⟩ | none => none
  | _ => none
def s74 (g : octet_Reader → Option (Bool × octet_Reader)) : Summ := ⟨[.pt 3], r74 g⟩
theorem r74_eq {g : octet_Reader → Option (Bool × octet_Reader)} {a0_1 : List UInt8} {a0_2 : Bool} {a0_3 : Bool} {x : Bool × octet_Reader} (hx : g (octet_Reader.mk a0_1 a0_2 a0_3) = some x) : (s74 g).run [.pt [.string ⟨⟨a0_1⟩⟩, .bool a0_2, .bool a0_3]] = some ⟨.bool x.1, [], [[.string ⟨⟨x.2.s⟩⟩, .bool x.2.made, .bool x.2.bad]]⟩ := by
  show r74 g [.pt [.string ⟨⟨a0_1⟩⟩, .bool a0_2, .bool a0_3]] = _
  simp only [r74, hx]
abbrev sums74 : List (Nat × Summ) := []
theorem leads74 (hS : SumsOK Try.prog (aget (sums74))) (ra0 : octet_Reader) (res : Bool × octet_Reader) (h : octet_Reader_BadF ra0 = some res) :
    Leads Try.prog 74 1 ⟨⟨74, 18, [(0, .pointer (some ⟨0, 0, none⟩))], [.code k74_3], [], false, none⟩, [], [(0, .cells [.string ⟨⟨ra0.s⟩⟩, .bool ra0.made, .bool ra0.bad])], 1⟩ (fun v H _ => post74 res v H) := by
  unfold octet_Reader_BadF at h
  refine ev_ok tab_ok hS true 3000 ?_
  conv => whnf
  refine br.h h ?_ ?_ ?_
  · rfl
  · clear h; intro hb h; conv => whnf
    all_goals (cases h)
    all_goals exact ⟨rfl, rfl⟩
  clear h; intro hb h; conv => whnf
  all_goals (cases h)
  all_goals exact ⟨rfl, rfl⟩
theorem ok74 (hS : SumsOK Try.prog (aget (sums74))) : SumOK Try.prog 74 (s74 (octet_Reader_BadF)) := by
  refine SumOK.of_leads tab_ok (fun ar r ha hr => ?_) ⟨Try.f74, rfl, by decide, rfl⟩
  simp only [s74] at ha hr
  unfold r74 at hr
  split at hr <;> try (cases hr; done)
  split at hr <;> cases hr
  rename_i x h
  refine ⟨_, rfl, (leads74 hS _ x h).mono fun v H t hp => ?_⟩
  obtain ⟨rfl, h0⟩ := hp
  exact Res.val rfl ⟨h0, rfl, trivial⟩
def octet_Reader_Bad : octet_Reader → Option (Bool × octet_Reader) := octet_Reader_BadF
theorem lift74 : SumOK Try.prog 74 (s74 octet_Reader_Bad) := ok74 (SumsOK.of_tab trivial)
end Go.Vm.Code

namespace Go.Vm.Code
open Go Go.Vm Go.Proofs
set_option maxRecDepth 100000
set_option maxHeartbeats 4000000
set_option linter.unusedVariables false

/-! (*cloakroom/octet.Reader).Text -/
def octet_Reader_TextF (octet_Reader_Bad : octet_Reader → Option (Bool × octet_Reader)) (ra0 : octet_Reader) (n : Int) : Option ((List UInt8) × octet_Reader) :=
  (octet_Reader_Bad ra0).bind fun b =>
  cond (b.1)
    (
    some (([], b.2)))
    (
    cond (decide (n < 0))
      (
      some (([], octet_Reader.mk b.2.s b.2.made true)))
      (
      cond (decide (n > (b.2.s.length : Int)))
        (
        some (([], octet_Reader.mk b.2.s b.2.made true)))
        (
        oreq (decide ((0 : Int) ≤ n ∧ n ≤ (b.2.s.length : Int))) <|
        oreq (decide ((0 : Int) ≤ n ∧ n ≤ (b.2.s.length : Int))) <|
        let t := (b.2.s.drop n.toNat).take (b.2.s.length - n.toNat)
        some ((b.2.s.take n.toNat, octet_Reader.mk t b.2.made b.2.bad)))))
def post70 (x : (List UInt8) × octet_Reader) (v : Value) (H : Hp) : Prop := v = .string ⟨⟨x.1⟩⟩ ∧ aget H 0 = some (.cells [.string ⟨⟨x.2.s⟩⟩, .bool x.2.made, .bool x.2.bad])
def r70 (g : octet_Reader → Int → Option ((List UInt8) × octet_Reader)) : List SArg → Option SRes
  | [.pt [.string ⟨⟨a0_1⟩⟩, .bool a0_2, .bool a0_3], .v (.int .i64 a1_1)] => match g (octet_Reader.mk a0_1 a0_2 a0_3) a1_1 with | some x => some ⟨.string ⟨⟨x.1⟩⟩, [], [[.string ⟨⟨x.2.s⟩⟩, .bool x.2.made, .bool x.2.bad]]⟩ | none => none
  | _ => none
def s70 (g : octet_Reader → Int → Option ((List UInt8) × octet_Reader)) : Summ := ⟨[.pt 3, .v], r70 g⟩
theorem r70_eq {g : octet_Reader → Int → Option ((List UInt8) × octet_Reader)} {a0_1 : List UInt8} {a0_2 : Bool} {a0_3 : Bool} {a1_1 : Int} {x : (List UInt8) × octet_Reader} (hx : g (octet_Reader.mk a0_1 a0_2 a0_3) a1_1 = some x) : (s70 g).run [.pt [.string ⟨⟨a0_1⟩⟩, .bool a0_2, .bool a0_3], .v (.int .i64 a1_1)] = some ⟨.string ⟨⟨x.1⟩⟩, [], [[.string ⟨⟨x.2.s⟩⟩, .bool x.2.made, .bool x.2.bad]]⟩ := by
  show r70 g [.pt [.string ⟨⟨a0_1⟩⟩, .bool a0_2, .bool a0_3], .v (.int .i64 a1_1)] = _
  simp only [r70, hx]
abbrev sums70 (octet_Reader_Bad : octet_Reader → Option (Bool × octet_Reader)) : List (Nat × Summ) := [(74, s74 octet_Reader_Bad)]
theorem leads70 (octet_Reader_Bad : octet_Reader → Option (Bool × octet_Reader)) (hS : SumsOK Try.prog (aget (sums70 octet_Reader_Bad))) (ra0 : octet_Reader) (n : Int) (res : (List UInt8) × octet_Reader) (h : octet_Reader_TextF octet_Reader_Bad ra0 n = some res) :
    Leads Try.prog 70 1 ⟨⟨70, 38, [(0, .pointer (some ⟨0, 0, none⟩)), (1, .int .i64 n)], [.code k70_21], [], false, none⟩, [], [(0, .cells [.string ⟨⟨ra0.s⟩⟩, .bool ra0.made, .bool ra0.bad])], 1⟩ (fun v H _ => post70 res v H) := by
  unfold octet_Reader_TextF at h
  refine ev_ok tab_ok hS true 3000 ?_
  conv => whnf
  obtain ⟨b, hy, h2⟩ := obind.elim h; clear h; have h := h2; clear h2
  refine sumK.introF [0] (sumRun_of (aqs := [.pt [.string ⟨⟨ra0.s⟩⟩, .bool ra0.made, .bool ra0.bad]]) (ra_cons rfl ra_nil) (r74_eq hy) rfl rfl rfl rfl) ?_
  conv => whnf
  refine br.h h ?_ ?_ ?_
  · rfl
  · clear h; intro hb h; conv => whnf
    all_goals (cases h)
    all_goals exact ⟨rfl, rfl⟩
  clear h; intro hb h; conv => whnf
  refine br.h h ?_ ?_ ?_
  · rfl
  · clear h; intro hb h; conv => whnf
    all_goals (cases h)
    all_goals exact ⟨rfl, rfl⟩
  clear h; intro hb h; conv => whnf
  refine br.h h ?_ ?_ ?_
  · rfl
  · clear h; intro hb h; conv => whnf
    all_goals (cases h)
    all_goals exact ⟨rfl, rfl⟩
  clear h; intro hb h; conv => whnf
  replace h := oreq.elim h; have hb := h.1; replace h := h.2
  first | (refine req.intro hb ?_; conv => whnf) | skip
  replace h := oreq.elim h; have hb := h.1; replace h := h.2
  first | (refine req.intro hb ?_; conv => whnf) | skip
  let t : List UInt8 := (b.2.s.drop n.toNat).take (b.2.s.length - n.toNat)
  all_goals (cases h)
  all_goals exact ⟨rfl, rfl⟩
theorem ok70 (octet_Reader_Bad : octet_Reader → Option (Bool × octet_Reader)) (hS : SumsOK Try.prog (aget (sums70 octet_Reader_Bad))) : SumOK Try.prog 70 (s70 (octet_Reader_TextF octet_Reader_Bad)) := by
  refine SumOK.of_leads tab_ok (fun ar r ha hr => ?_) ⟨Try.f70, rfl, by decide, rfl⟩
  simp only [s70] at ha hr
  unfold r70 at hr
  split at hr <;> try (cases hr; done)
  split at hr <;> cases hr
  rename_i x h
  refine ⟨_, rfl, (leads70 octet_Reader_Bad hS _ _ x h).mono fun v H t hp => ?_⟩
  obtain ⟨rfl, h0⟩ := hp
  exact Res.val rfl ⟨h0, rfl, trivial⟩
def octet_Reader_Text : octet_Reader → Int → Option ((List UInt8) × octet_Reader) := octet_Reader_TextF octet_Reader_Bad
theorem lift70 : SumOK Try.prog 70 (s70 octet_Reader_Text) := ok70 octet_Reader_Bad (SumsOK.of_tab ⟨lift74, trivial⟩)
end Go.Vm.Code

namespace Go.Vm.Code
open Go Go.Vm Go.Proofs
set_option maxRecDepth 100000
set_option maxHeartbeats 4000000
set_option linter.unusedVariables false

/-! (*cloakroom/octet.Reader).Num -/
def octet_Reader_NumF (octet_Get : (List UInt8) → Int → Int → Option (Int × Bool)) (octet_Reader_Text : octet_Reader → Int → Option ((List UInt8) × octet_Reader)) (ra0 : octet_Reader) (k : Int) : Option (Int × octet_Reader) :=
  cond (decide (k < 1))
    (
    (octet_Reader_Text ra0 (-1)).bind fun t =>
    (octet_Get t.1 0 (-1)).bind fun xg =>
    some ((wI .i64 xg.1, t.2)))
    (
    cond (decide (k > 7))
      (
      (octet_Reader_Text ra0 (-1)).bind fun t1 =>
      (octet_Get t1.1 0 (-1)).bind fun xg1 =>
      some ((wI .i64 xg1.1, t1.2)))
      (
      (octet_Reader_Text ra0 k).bind fun t2 =>
      (octet_Get t2.1 0 k).bind fun xg2 =>
      some ((wI .i64 xg2.1, t2.2))))
def post68 (x : Int × octet_Reader) (v : Value) (H : Hp) : Prop := v = .int .i64 x.1 ∧ aget H 0 = some (.cells [.string ⟨⟨x.2.s⟩⟩, .bool x.2.made, .bool x.2.bad])
def r68 (g : octet_Reader → Int → Option (Int × octet_Reader)) : List SArg → Option SRes
  | [.pt [.string ⟨⟨a0_1⟩⟩, .bool a0_2, .bool a0_3], .v (.int .i64 a1_1)] => match g (octet_Reader.mk a0_1 a0_2 a0_3) a1_1 with | some x => some ⟨.int .i64 x.1, [], [[.string ⟨⟨x.2.s⟩⟩, .bool x.2.made, .bool x.2.bad]]⟩ | none => none
  | _ => none
def s68 (g : octet_Reader → Int → Option (Int × octet_Reader)) : Summ := ⟨[.pt 3, .v], r68 g⟩
theorem r68_eq {g : octet_Reader → Int → Option (Int × octet_Reader)} {a0_1 : List UInt8} {a0_2 : Bool} {a0_3 : Bool} {a1_1 : Int} {x : Int × octet_Reader} (hx : g (octet_Reader.mk a0_1 a0_2 a0_3) a1_1 = some x) : (s68 g).run [.pt [.string ⟨⟨a0_1⟩⟩, .bool a0_2, .bool a0_3], .v (.int .i64 a1_1)] = some ⟨.int .i64 x.1, [], [[.string ⟨⟨x.2.s⟩⟩, .bool x.2.made, .bool x.2.bad]]⟩ := by
  show r68 g [.pt [.string ⟨⟨a0_1⟩⟩, .bool a0_2, .bool a0_3], .v (.int .i64 a1_1)] = _
  simp only [r68, hx]
abbrev sums68 (octet_Get : (List UInt8) → Int → Int → Option (Int × Bool)) (octet_Reader_Text : octet_Reader → Int → Option ((List UInt8) × octet_Reader)) : List (Nat × Summ) := [(59, s59 octet_Get), (70, s70 octet_Reader_Text)]
theorem leads68 (octet_Get : (List UInt8) → Int → Int → Option (Int × Bool)) (octet_Reader_Text : octet_Reader → Int → Option ((List UInt8) × octet_Reader)) (hS : SumsOK Try.prog (aget (sums68 octet_Get octet_Reader_Text))) (ra0 : octet_Reader) (k : Int) (res : Int × octet_Reader) (h : octet_Reader_NumF octet_Get octet_Reader_Text ra0 k = some res) :
    Leads Try.prog 68 1 ⟨⟨68, 23, [(0, .pointer (some ⟨0, 0, none⟩)), (1, .int .i64 k)], [.code k68_10], [], false, none⟩, [], [(0, .cells [.string ⟨⟨ra0.s⟩⟩, .bool ra0.made, .bool ra0.bad])], 1⟩ (fun v H _ => post68 res v H) := by
  unfold octet_Reader_NumF at h
  refine ev_ok tab_ok hS true 3000 ?_
  conv => whnf
  refine br.h h ?_ ?_ ?_
  · rfl
  · clear h; intro hb h; conv => whnf
    obtain ⟨t, hy, h2⟩ := obind.elim h; clear h; have h := h2; clear h2
    refine sumK.introF [0] (sumRun_of (aqs := [.pt [.string ⟨⟨ra0.s⟩⟩, .bool ra0.made, .bool ra0.bad], .v (.int .i64 (-1))]) (ra_cons rfl (ra_cons rfl ra_nil)) (r70_eq hy) rfl rfl rfl rfl) ?_
    conv => whnf
    obtain ⟨xg, hy, h2⟩ := obind.elim h; clear h; have h := h2; clear h2
    refine sumK.introF [] (sumRun_of (aqs := [.v (.string ⟨⟨t.1⟩⟩), .v (.int .i64 0), .v (.int .i64 (-1))]) (ra_cons rfl (ra_cons rfl (ra_cons rfl ra_nil))) (r59_eq hy) rfl rfl rfl rfl) ?_
    conv => whnf
    all_goals (cases h)
    all_goals exact ⟨rfl, rfl⟩
  clear h; intro hb h; conv => whnf
  refine br.h h ?_ ?_ ?_
  · rfl
  · clear h; intro hb h; conv => whnf
    obtain ⟨t1, hy, h2⟩ := obind.elim h; clear h; have h := h2; clear h2
    refine sumK.introF [0] (sumRun_of (aqs := [.pt [.string ⟨⟨ra0.s⟩⟩, .bool ra0.made, .bool ra0.bad], .v (.int .i64 (-1))]) (ra_cons rfl (ra_cons rfl ra_nil)) (r70_eq hy) rfl rfl rfl rfl) ?_
    conv => whnf
    obtain ⟨xg1, hy, h2⟩ := obind.elim h; clear h; have h := h2; clear h2
    refine sumK.introF [] (sumRun_of (aqs := [.v (.string ⟨⟨t1.1⟩⟩), .v (.int .i64 0), .v (.int .i64 (-1))]) (ra_cons rfl (ra_cons rfl (ra_cons rfl ra_nil))) (r59_eq hy) rfl rfl rfl rfl) ?_
    conv => whnf
    all_goals (cases h)
    all_goals exact ⟨rfl, rfl⟩
  clear h; intro hb h; conv => whnf
  obtain ⟨t2, hy, h2⟩ := obind.elim h; clear h; have h := h2; clear h2
  refine sumK.introF [0] (sumRun_of (aqs := [.pt [.string ⟨⟨ra0.s⟩⟩, .bool ra0.made, .bool ra0.bad], .v (.int .i64 k)]) (ra_cons rfl (ra_cons rfl ra_nil)) (r70_eq hy) rfl rfl rfl rfl) ?_
  conv => whnf
  obtain ⟨xg2, hy, h2⟩ := obind.elim h; clear h; have h := h2; clear h2
  refine sumK.introF [] (sumRun_of (aqs := [.v (.string ⟨⟨t2.1⟩⟩), .v (.int .i64 0), .v (.int .i64 k)]) (ra_cons rfl (ra_cons rfl (ra_cons rfl ra_nil))) (r59_eq hy) rfl rfl rfl rfl) ?_
  conv => whnf
  all_goals (cases h)
  all_goals exact ⟨rfl, rfl⟩
theorem ok68 (octet_Get : (List UInt8) → Int → Int → Option (Int × Bool)) (octet_Reader_Text : octet_Reader → Int → Option ((List UInt8) × octet_Reader)) (hS : SumsOK Try.prog (aget (sums68 octet_Get octet_Reader_Text))) : SumOK Try.prog 68 (s68 (octet_Reader_NumF octet_Get octet_Reader_Text)) := by
  refine SumOK.of_leads tab_ok (fun ar r ha hr => ?_) ⟨Try.f68, rfl, by decide, rfl⟩
  simp only [s68] at ha hr
  unfold r68 at hr
  split at hr <;> try (cases hr; done)
  split at hr <;> cases hr
  rename_i x h
  refine ⟨_, rfl, (leads68 octet_Get octet_Reader_Text hS _ _ x h).mono fun v H t hp => ?_⟩
  obtain ⟨rfl, h0⟩ := hp
  exact Res.val rfl ⟨h0, rfl, trivial⟩
def octet_Reader_Num : octet_Reader → Int → Option (Int × octet_Reader) := octet_Reader_NumF octet_Get octet_Reader_Text
theorem lift68 : SumOK Try.prog 68 (s68 octet_Reader_Num) := ok68 octet_Get octet_Reader_Text (SumsOK.of_tab ⟨lift59, lift70, trivial⟩)
end Go.Vm.Code

namespace Go.Vm.Code
open Go Go.Vm Go.Proofs
set_option maxRecDepth 100000
set_option maxHeartbeats 4000000
set_option linter.unusedVariables false

/-! cloakroom/octet.New -/
def octet_NewF (s : List UInt8) : Option octet_Reader :=
  some (octet_Reader.mk s true false)
def post67 (x : octet_Reader) (v : Value) (H : Hp) : Prop := ∃ j, 0 ≤ j ∧ (aget H j = some (.row true [.string ⟨⟨x.s⟩⟩, .bool x.made, .bool x.bad]) ∨ aget H j = some (.cells [.string ⟨⟨x.s⟩⟩, .bool x.made, .bool x.bad])) ∧ v = .pointer (some ⟨j, 0, none⟩)
def r67 (g : (List UInt8) → Option octet_Reader) : List SArg → Option SRes
  | [.v (.string ⟨⟨a0_1⟩⟩)] => match g a0_1 with | some x => some ⟨.pointer (some ⟨0, 0, none⟩), [[.string ⟨⟨x.s⟩⟩, .bool x.made, .bool x.bad]], []⟩ | none => none
  | _ => none
def s67 (g : (List UInt8) → Option octet_Reader) : Summ := ⟨[.v], r67 g⟩
theorem r67_eq {g : (List UInt8) → Option octet_Reader} {a0_1 : List UInt8} {x : octet_Reader} (hx : g a0_1 = some x) : (s67 g).run [.v (.string ⟨⟨a0_1⟩⟩)] = some ⟨.pointer (some ⟨0, 0, none⟩), [[.string ⟨⟨x.s⟩⟩, .bool x.made, .bool x.bad]], []⟩ := by
  show r67 g [.v (.string ⟨⟨a0_1⟩⟩)] = _
  simp only [r67, hx]
abbrev sums67 : List (Nat × Summ) := []
theorem leads67 (hS : SumsOK Try.prog (aget (sums67))) (s : List UInt8) (res : octet_Reader) (h : octet_NewF s = some res) :
    Leads Try.prog 67 0 ⟨⟨67, 6, [(0, .string ⟨⟨s⟩⟩)], [.code k67_3], [], false, none⟩, [], [], 0⟩ (fun v H _ => post67 res v H) := by
  unfold octet_NewF at h
  refine ev_ok tab_ok hS true 3000 ?_
  conv => whnf
  all_goals (cases h)
  all_goals exact ⟨0, by omega, .inr rfl, rfl⟩
theorem ok67 (hS : SumsOK Try.prog (aget (sums67))) : SumOK Try.prog 67 (s67 (octet_NewF)) := by
  refine SumOK.of_leads tab_ok (fun ar r ha hr => ?_) ⟨Try.f67, rfl, by decide, rfl⟩
  simp only [s67] at ha hr
  unfold r67 at hr
  split at hr <;> try (cases hr; done)
  split at hr <;> cases hr
  rename_i x h
  refine ⟨_, rfl, (leads67 hS _ x h).mono fun v H t hp => ?_⟩
  obtain ⟨j, hj, hc, hp⟩ := hp
  cases hp
  exact Res.one j rfl hc trivial hj
def octet_New : (List UInt8) → Option octet_Reader := octet_NewF
theorem lift67 : SumOK Try.prog 67 (s67 octet_New) := ok67 (SumsOK.of_tab trivial)
end Go.Vm.Code

/- A reader of bytes, in plain words. -/
namespace Go.Vm.Code
open Go Go.Vm

/-- a reader behind k bytes more -/
def rdr (r : octet_Reader) (k : Int) : octet_Reader := if r.bad = true ∨ k < 0 ∨ k > r.s.length then ⟨r.s, true, true⟩ else ⟨r.s.drop k.toNat, true, false⟩
def rdt (r : octet_Reader) (k : Int) : List UInt8 := if r.bad = true ∨ k < 0 ∨ k > r.s.length then [] else r.s.take k.toNat
theorem rBad_eq {r : octet_Reader} (h : r.made = true) : octet_Reader_Bad r = some (r.bad, r) := by
  unfold octet_Reader_Bad octet_Reader_BadF
  rw [h]; rfl
theorem rText_eq {r : octet_Reader} {k : Int} (h : r.made = true) : octet_Reader_Text r k = some (rdt r k, rdr r k) := by
  unfold octet_Reader_Text octet_Reader_TextF rdt rdr
  rw [rBad_eq h, Option.bind_some]
  simp only []
  obtain ⟨s, m, b⟩ := r
  simp only at h ⊢
  subst h
  cases b with
  | true => simp
  | false =>
    rw [cond_false]
    by_cases h1 : k < 0
    · rw [cond_p h1, if_pos (by omega), if_pos (by omega)]
    rw [cond_n h1]
    by_cases h2 : k > s.length
    · rw [cond_p h2, if_pos (by omega), if_pos (by omega)]
    · have e : (s.drop k.toNat).take (s.length - k.toNat) = s.drop k.toNat := List.take_of_length_le (by simp)
      rw [cond_n h2, oreq_p (by omega), oreq_p (by omega), if_neg (by simp; omega), if_neg (by simp; omega), e]
theorem rdr_made (r : octet_Reader) (k : Int) : (rdr r k).made = true := by unfold rdr; split <;> rfl
theorem rdr_bad {r : octet_Reader} {k : Int} : (rdr r k).bad = false ↔ r.bad = false ∧ 0 ≤ k ∧ k ≤ r.s.length := by
  unfold rdr
  split
  · rename_i h
    simp only [Bool.true_eq_false, false_iff]
    intro ⟨a, b, c⟩
    rcases h with h | h | h
    · rw [a] at h; cases h
    · omega
    · omega
  · rename_i h
    simp only [true_iff]
    cases hb : r.bad
    · exact ⟨rfl, by omega, by omega⟩
    · exact absurd (.inl hb) h
theorem rdr_len {r : octet_Reader} {k : Int} (h : (rdr r k).bad = false) : ((rdr r k).s.length : Int) = r.s.length - k := by
  obtain ⟨a, b, c⟩ := rdr_bad.1 h
  unfold rdr
  rw [if_neg (by rw [a]; simp; omega)]
  simp; omega
theorem rdr_step {r r' : octet_Reader} {k : Int} (h : rdr r k = r') (hb : r'.bad = false) : r.bad = false ∧ (r'.s.length : Int) + k = r.s.length := by
  subst h
  have := rdr_len hb
  exact ⟨(rdr_bad.1 hb).1, by omega⟩
theorem rdr_ok {s : List UInt8} {k : Int} (h0 : 0 ≤ k) (h1 : k ≤ s.length) : rdr ⟨s, true, false⟩ k = ⟨s.drop k.toNat, true, false⟩ := by
  unfold rdr; rw [if_neg (by simp; omega)]
theorem rdt_ok {s : List UInt8} {k : Int} (h0 : 0 ≤ k) (h1 : k ≤ s.length) : rdt ⟨s, true, false⟩ k = s.take k.toNat := by
  unfold rdt; rw [if_neg (by simp; omega)]
theorem rdt_len (r : octet_Reader) (k : Int) : (rdt r k).length ≤ r.s.length := by
  unfold rdt; split
  · simp
  · rw [List.length_take]; omega
/-- a number read -/
def rdn (r : octet_Reader) (k : Int) : Int := (valL (rdt r (if k < 1 ∨ k > 7 then -1 else k)) : Nat)
theorem rNum_eq {r : octet_Reader} {k : Int} (h : r.made = true) (hl : r.s.length < 2 ^ 61) : octet_Reader_Num r k = some (rdn r k, rdr r (if k < 1 ∨ k > 7 then -1 else k)) := by
  unfold octet_Reader_Num octet_Reader_NumF rdn
  have bad : octet_Reader_Text r (-1) = some ([], rdr r (-1)) := by
    rw [rText_eq h]; unfold rdt; rw [if_pos (by omega)]
  have e0 : rdt r (-1) = [] := by unfold rdt; rw [if_pos (by omega)]
  by_cases h1 : k < 1
  · rw [cond_p h1, bad, Option.bind_some, octet_Get_eq (by simp), if_pos (by omega), Option.bind_some, e0]; rfl
  rw [cond_n h1]
  by_cases h2 : k > 7
  · rw [cond_p h2, bad, Option.bind_some, octet_Get_eq (by simp), if_pos (by omega), Option.bind_some, e0]; rfl
  have hlen := rdt_len r k
  rw [cond_n h2, rText_eq h, Option.bind_some, octet_Get_eq (by simp only []; omega), Option.bind_some, if_neg (by omega)]
  simp only []
  unfold getS
  by_cases hc : r.bad = true ∨ k < 0 ∨ k > r.s.length
  · have e : rdt r k = [] := by unfold rdt; rw [if_pos hc]
    rw [e, if_neg (by simp; omega)]; rfl
  · have hl2 : (rdt r k).length = k.toNat := by unfold rdt; rw [if_neg hc]; simp; omega
    rw [if_pos (by omega)]
    have e2 : ((rdt r k).drop (0 : Int).toNat).take k.toNat = rdt r k := by
      rw [show (0 : Int).toNat = 0 from rfl, List.drop_zero, List.take_of_length_le (by omega)]
    have hv : valL (rdt r k) < 2 ^ 56 := by
      have := val_lt (rdt r k)
      rw [hl2] at this
      exact pow_step this (by omega)
    simp only [e2]
    rw [wI64 (by omega) (by omega)]
theorem getS_at {s : List UInt8} {p k : Int} (h0 : 0 ≤ p) (h1 : 1 ≤ k) (h8 : k ≤ 8) (h : p + k ≤ s.length) : getS s p k = (((valL ((s.drop p.toNat).take k.toNat) : Nat) : Int), true) := by
  unfold getS; rw [if_pos (by omega)]
theorem rNew_eq (s : List UInt8) : octet_New s = some ⟨s, true, false⟩ := rfl
end Go.Vm.Code

namespace Go.Vm.Code
open Go Go.Vm Go.Proofs
set_option maxRecDepth 100000
set_option maxHeartbeats 4000000
set_option linter.unusedVariables false

/-! cloakroom/gue.kind -/
def gue_kindF (six : Bool) : Option Int :=
  cond (six)
    (
    some (41))
    (
    some (4))
def post81 (x : Int) (v : Value) (H : Hp) : Prop := v = .int .i64 x
def r81 (g : Bool → Option Int) : List SArg → Option SRes
  | [.v (.bool a0_1)] => match g a0_1 with | some x => some ⟨.int .i64 x, [], []⟩ | none => none
  | _ => none
def s81 (g : Bool → Option Int) : Summ := ⟨[.v], r81 g⟩
theorem r81_eq {g : Bool → Option Int} {a0_1 : Bool} {x : Int} (hx : g a0_1 = some x) : (s81 g).run [.v (.bool a0_1)] = some ⟨.int .i64 x, [], []⟩ := by
  show r81 g [.v (.bool a0_1)] = _
  simp only [r81, hx]
abbrev sums81 : List (Nat × Summ) := []
theorem leads81 (hS : SumsOK Try.prog (aget (sums81))) (six : Bool) (res : Int) (h : gue_kindF six = some res) :
    Leads Try.prog 81 0 ⟨⟨81, 4, [(0, .bool six)], [.code k81_9], [], false, none⟩, [], [], 0⟩ (fun v H _ => post81 res v H) := by
  unfold gue_kindF at h
  refine ev_ok tab_ok hS true 3000 ?_
  conv => whnf
  refine br.h h ?_ ?_ ?_
  · rfl
  · clear h; intro hb h; conv => whnf
    all_goals (cases h)
    all_goals exact rfl
  clear h; intro hb h; conv => whnf
  all_goals (cases h)
  all_goals exact rfl
theorem ok81 (hS : SumsOK Try.prog (aget (sums81))) : SumOK Try.prog 81 (s81 (gue_kindF)) := by
  refine SumOK.of_leads tab_ok (fun ar r ha hr => ?_) ⟨Try.f81, rfl, by decide, rfl⟩
  simp only [s81] at ha hr
  unfold r81 at hr
  split at hr <;> try (cases hr; done)
  split at hr <;> cases hr
  rename_i x h
  refine ⟨_, rfl, (leads81 hS _ x h).mono fun v H t hp => ?_⟩
  cases hp
  exact Res.val rfl trivial
def gue_kind : Bool → Option Int := gue_kindF
theorem lift81 : SumOK Try.prog 81 (s81 gue_kind) := ok81 (SumsOK.of_tab trivial)
end Go.Vm.Code

namespace Go.Vm.Code
open Go Go.Vm Go.Proofs
set_option maxRecDepth 100000
set_option maxHeartbeats 4000000
set_option linter.unusedVariables false

/-! cloakroom/gue.bit -/
def gue_bitF (is : Bool) : Option Int :=
  cond (is)
    (
    some (1))
    (
    some (0))
def post82 (x : Int) (v : Value) (H : Hp) : Prop := v = .int .i64 x
def r82 (g : Bool → Option Int) : List SArg → Option SRes
  | [.v (.bool a0_1)] => match g a0_1 with | some x => some ⟨.int .i64 x, [], []⟩ | none => none
  | _ => none
def s82 (g : Bool → Option Int) : Summ := ⟨[.v], r82 g⟩
theorem r82_eq {g : Bool → Option Int} {a0_1 : Bool} {x : Int} (hx : g a0_1 = some x) : (s82 g).run [.v (.bool a0_1)] = some ⟨.int .i64 x, [], []⟩ := by
  show r82 g [.v (.bool a0_1)] = _
  simp only [r82, hx]
abbrev sums82 : List (Nat × Summ) := []
theorem leads82 (hS : SumsOK Try.prog (aget (sums82))) (is : Bool) (res : Int) (h : gue_bitF is = some res) :
    Leads Try.prog 82 0 ⟨⟨82, 4, [(0, .bool is)], [.code k82_9], [], false, none⟩, [], [], 0⟩ (fun v H _ => post82 res v H) := by
  unfold gue_bitF at h
  refine ev_ok tab_ok hS true 3000 ?_
  conv => whnf
  refine br.h h ?_ ?_ ?_
  · rfl
  · clear h; intro hb h; conv => whnf
    all_goals (cases h)
    all_goals exact rfl
  clear h; intro hb h; conv => whnf
  all_goals (cases h)
  all_goals exact rfl
theorem ok82 (hS : SumsOK Try.prog (aget (sums82))) : SumOK Try.prog 82 (s82 (gue_bitF)) := by
  refine SumOK.of_leads tab_ok (fun ar r ha hr => ?_) ⟨Try.f82, rfl, by decide, rfl⟩
  simp only [s82] at ha hr
  unfold r82 at hr
  split at hr <;> try (cases hr; done)
  split at hr <;> cases hr
  rename_i x h
  refine ⟨_, rfl, (leads82 hS _ x h).mono fun v H t hp => ?_⟩
  cases hp
  exact Res.val rfl trivial
def gue_bit : Bool → Option Int := gue_bitF
theorem lift82 : SumOK Try.prog 82 (s82 gue_bit) := ok82 (SumsOK.of_tab trivial)
end Go.Vm.Code

namespace Go.Vm.Code
open Go Go.Vm Go.Proofs
set_option maxRecDepth 100000
set_option maxHeartbeats 4000000
set_option linter.unusedVariables false

/-! cloakroom/gue.Put -/
def gue_PutF (check_Of : (List UInt8) → Option Int) (check_Set : (List UInt8) → Int → Int → Int → Option (List UInt8)) (gue_bit : Bool → Option Int) (gue_kind : Bool → Option Int) (octet_Put : Int → Int → Option (List UInt8)) (c : api_Cover) (inner : List UInt8) : Option ((List UInt8) × Int) :=
  cond (decide (c.Backend < 0))
    (
    some (([], 1)))
    (
    cond (decide (c.Backend > 65535))
      (
      some (([], 1)))
      (
      cond (decide (c.Instance < 0))
        (
        some (([], 1)))
        (
        cond (decide (c.Instance > 255))
          (
          some (([], 1)))
          (
          cond (decide ((inner.length : Int) > 9000))
            (
            some (([], 5)))
            (
            (gue_kind c.V6).bind fun k =>
            (gue_bit c.First).bind fun b =>
            (octet_Put (wI .u64 k) 1).bind fun p =>
            oreq (decide (3 + p.length < 2 ^ 63)) <|
            (octet_Put (wI .u64 c.Backend) 2).bind fun p1 =>
            oreq (decide (([71, 85, 1] ++ p).length + p1.length < 2 ^ 63)) <|
            (octet_Put (wI .u64 b) 1).bind fun p2 =>
            oreq (decide ((([71, 85, 1] ++ p) ++ p1).length + p2.length < 2 ^ 63)) <|
            (octet_Put (wI .u64 c.Instance) 1).bind fun p3 =>
            oreq (decide (((([71, 85, 1] ++ p) ++ p1) ++ p2).length + p3.length < 2 ^ 63)) <|
            (octet_Put 0 2).bind fun p4 =>
            oreq (decide ((((([71, 85, 1] ++ p) ++ p1) ++ p2) ++ p3).length + p4.length < 2 ^ 63)) <|
            let t := (((([71, 85, 1] ++ p) ++ p1) ++ p2) ++ p3) ++ p4
            (octet_Put c.Cookie 8).bind fun p5 =>
            oreq (decide (t.length + p5.length < 2 ^ 63)) <|
            (check_Of (t ++ p5)).bind fun xo =>
            (check_Set (t ++ p5) 8 2 (wI .u64 xo)).bind fun s =>
            oreq (decide (s.length + inner.length < 2 ^ 63)) <|
            some ((s ++ inner, 0)))))))
def post26 (x : (List UInt8) × Int) (v : Value) (H : Hp) : Prop := v = .tuple ⟨[.string ⟨⟨x.1⟩⟩, .int .i64 x.2]⟩
def r26 (g : api_Cover → (List UInt8) → Option ((List UInt8) × Int)) : List SArg → Option SRes
  | [.v (.agg ⟨[.bool a0_1, .int .i64 a0_2, .int .u64 a0_3, .bool a0_4, .int .i64 a0_5]⟩), .v (.string ⟨⟨a1_1⟩⟩)] => match g (api_Cover.mk a0_1 a0_2 a0_3 a0_4 a0_5) a1_1 with | some x => some ⟨.tuple ⟨[.string ⟨⟨x.1⟩⟩, .int .i64 x.2]⟩, [], []⟩ | none => none
  | _ => none
def s26 (g : api_Cover → (List UInt8) → Option ((List UInt8) × Int)) : Summ := ⟨[.v, .v], r26 g⟩
theorem r26_eq {g : api_Cover → (List UInt8) → Option ((List UInt8) × Int)} {a0_1 : Bool} {a0_2 : Int} {a0_3 : Int} {a0_4 : Bool} {a0_5 : Int} {a1_1 : List UInt8} {x : (List UInt8) × Int} (hx : g (api_Cover.mk a0_1 a0_2 a0_3 a0_4 a0_5) a1_1 = some x) : (s26 g).run [.v (.agg ⟨[.bool a0_1, .int .i64 a0_2, .int .u64 a0_3, .bool a0_4, .int .i64 a0_5]⟩), .v (.string ⟨⟨a1_1⟩⟩)] = some ⟨.tuple ⟨[.string ⟨⟨x.1⟩⟩, .int .i64 x.2]⟩, [], []⟩ := by
  show r26 g [.v (.agg ⟨[.bool a0_1, .int .i64 a0_2, .int .u64 a0_3, .bool a0_4, .int .i64 a0_5]⟩), .v (.string ⟨⟨a1_1⟩⟩)] = _
  simp only [r26, hx]
abbrev sums26 (check_Of : (List UInt8) → Option Int) (check_Set : (List UInt8) → Int → Int → Int → Option (List UInt8)) (gue_bit : Bool → Option Int) (gue_kind : Bool → Option Int) (octet_Put : Int → Int → Option (List UInt8)) : List (Nat × Summ) := [(84, s84 check_Of), (83, s83 check_Set), (82, s82 gue_bit), (81, s81 gue_kind), (63, s63 octet_Put)]
theorem leads26 (check_Of : (List UInt8) → Option Int) (check_Set : (List UInt8) → Int → Int → Int → Option (List UInt8)) (gue_bit : Bool → Option Int) (gue_kind : Bool → Option Int) (octet_Put : Int → Int → Option (List UInt8)) (hS : SumsOK Try.prog (aget (sums26 check_Of check_Set gue_bit gue_kind octet_Put))) (c : api_Cover) (inner : List UInt8) (res : (List UInt8) × Int) (h : gue_PutF check_Of check_Set gue_bit gue_kind octet_Put c inner = some res) :
    Leads Try.prog 26 0 ⟨⟨26, 72, [(0, .agg ⟨[.bool c.V6, .int .i64 c.Backend, .int .u64 c.Cookie, .bool c.First, .int .i64 c.Instance]⟩), (1, .string ⟨⟨inner⟩⟩)], [.code k26_34], [], false, none⟩, [], [], 0⟩ (fun v H _ => post26 res v H) := by
  unfold gue_PutF at h
  refine ev_ok tab_ok hS true 3000 ?_
  conv => whnf
  refine br.h h ?_ ?_ ?_
  · rfl
  · clear h; intro hb h; conv => whnf
    all_goals (cases h)
    all_goals exact rfl
  clear h; intro hb h; conv => whnf
  refine br.h h ?_ ?_ ?_
  · rfl
  · clear h; intro hb h; conv => whnf
    all_goals (cases h)
    all_goals exact rfl
  clear h; intro hb h; conv => whnf
  refine br.h h ?_ ?_ ?_
  · rfl
  · clear h; intro hb h; conv => whnf
    all_goals (cases h)
    all_goals exact rfl
  clear h; intro hb h; conv => whnf
  refine br.h h ?_ ?_ ?_
  · rfl
  · clear h; intro hb h; conv => whnf
    all_goals (cases h)
    all_goals exact rfl
  clear h; intro hb h; conv => whnf
  refine br.h h ?_ ?_ ?_
  · rfl
  · clear h; intro hb h; conv => whnf
    all_goals (cases h)
    all_goals exact rfl
  clear h; intro hb h; conv => whnf
  obtain ⟨k, hy, h2⟩ := obind.elim h; clear h; have h := h2; clear h2
  refine sumK.introF [] (sumRun_of (aqs := [.v (.bool c.V6)]) (ra_cons rfl ra_nil) (r81_eq hy) rfl rfl rfl rfl) ?_
  conv => whnf
  obtain ⟨b, hy, h2⟩ := obind.elim h; clear h; have h := h2; clear h2
  refine sumK.introF [] (sumRun_of (aqs := [.v (.bool c.First)]) (ra_cons rfl ra_nil) (r82_eq hy) rfl rfl rfl rfl) ?_
  conv => whnf
  refine ev_ok tab_ok hS true 3000 ?_
  conv => whnf
  obtain ⟨p, hy, h2⟩ := obind.elim h; clear h; have h := h2; clear h2
  refine sumK.introF [] (sumRun_of (aqs := [.v (.int .u64 (wI .u64 k)), .v (.int .i64 1)]) (ra_cons rfl (ra_cons rfl ra_nil)) (r63_eq hy) rfl rfl rfl rfl) ?_
  conv => whnf
  replace h := oreq.elim h; have hb := h.1; replace h := h.2
  first | (refine req.intro hb ?_; conv => whnf) | skip
  refine ev_ok tab_ok hS true 3000 ?_
  conv => whnf
  obtain ⟨p1, hy, h2⟩ := obind.elim h; clear h; have h := h2; clear h2
  refine sumK.introF [] (sumRun_of (aqs := [.v (.int .u64 (wI .u64 c.Backend)), .v (.int .i64 2)]) (ra_cons rfl (ra_cons rfl ra_nil)) (r63_eq hy) rfl rfl rfl rfl) ?_
  conv => whnf
  replace h := oreq.elim h; have hb := h.1; replace h := h.2
  first | (refine req.intro hb ?_; conv => whnf) | skip
  refine ev_ok tab_ok hS true 3000 ?_
  conv => whnf
  obtain ⟨p2, hy, h2⟩ := obind.elim h; clear h; have h := h2; clear h2
  refine sumK.introF [] (sumRun_of (aqs := [.v (.int .u64 (wI .u64 b)), .v (.int .i64 1)]) (ra_cons rfl (ra_cons rfl ra_nil)) (r63_eq hy) rfl rfl rfl rfl) ?_
  conv => whnf
  replace h := oreq.elim h; have hb := h.1; replace h := h.2
  first | (refine req.intro hb ?_; conv => whnf) | skip
  refine ev_ok tab_ok hS true 3000 ?_
  conv => whnf
  obtain ⟨p3, hy, h2⟩ := obind.elim h; clear h; have h := h2; clear h2
  refine sumK.introF [] (sumRun_of (aqs := [.v (.int .u64 (wI .u64 c.Instance)), .v (.int .i64 1)]) (ra_cons rfl (ra_cons rfl ra_nil)) (r63_eq hy) rfl rfl rfl rfl) ?_
  conv => whnf
  replace h := oreq.elim h; have hb := h.1; replace h := h.2
  first | (refine req.intro hb ?_; conv => whnf) | skip
  refine ev_ok tab_ok hS true 3000 ?_
  conv => whnf
  obtain ⟨p4, hy, h2⟩ := obind.elim h; clear h; have h := h2; clear h2
  refine sumK.introF [] (sumRun_of (aqs := [.v (.int .u64 0), .v (.int .i64 2)]) (ra_cons rfl (ra_cons rfl ra_nil)) (r63_eq hy) rfl rfl rfl rfl) ?_
  conv => whnf
  replace h := oreq.elim h; have hb := h.1; replace h := h.2
  first | (refine req.intro hb ?_; conv => whnf) | skip
  let t : List UInt8 := (((([71, 85, 1] ++ p) ++ p1) ++ p2) ++ p3) ++ p4
  refine ev_ok tab_ok hS true 3000 ?_
  conv => whnf
  obtain ⟨p5, hy, h2⟩ := obind.elim h; clear h; have h := h2; clear h2
  refine sumK.introF [] (sumRun_of (aqs := [.v (.int .u64 c.Cookie), .v (.int .i64 8)]) (ra_cons rfl (ra_cons rfl ra_nil)) (r63_eq hy) rfl rfl rfl rfl) ?_
  conv => whnf
  replace h := oreq.elim h; have hb := h.1; replace h := h.2
  first | (refine req.intro hb ?_; conv => whnf) | skip
  obtain ⟨xo, hy, h2⟩ := obind.elim h; clear h; have h := h2; clear h2
  refine sumK.introF [] (sumRun_of (aqs := [.v (.string ⟨⟨t ++ p5⟩⟩)]) (ra_cons rfl ra_nil) (r84_eq hy) rfl rfl rfl rfl) ?_
  conv => whnf
  obtain ⟨s, hy, h2⟩ := obind.elim h; clear h; have h := h2; clear h2
  refine sumK.introF [] (sumRun_of (aqs := [.v (.string ⟨⟨t ++ p5⟩⟩), .v (.int .i64 8), .v (.int .i64 2), .v (.int .u64 (wI .u64 xo))]) (ra_cons rfl (ra_cons rfl (ra_cons rfl (ra_cons rfl ra_nil)))) (r83_eq hy) rfl rfl rfl rfl) ?_
  conv => whnf
  replace h := oreq.elim h; have hb := h.1; replace h := h.2
  first | (refine req.intro hb ?_; conv => whnf) | skip
  all_goals (cases h)
  all_goals exact rfl
theorem ok26 (check_Of : (List UInt8) → Option Int) (check_Set : (List UInt8) → Int → Int → Int → Option (List UInt8)) (gue_bit : Bool → Option Int) (gue_kind : Bool → Option Int) (octet_Put : Int → Int → Option (List UInt8)) (hS : SumsOK Try.prog (aget (sums26 check_Of check_Set gue_bit gue_kind octet_Put))) : SumOK Try.prog 26 (s26 (gue_PutF check_Of check_Set gue_bit gue_kind octet_Put)) := by
  refine SumOK.of_leads tab_ok (fun ar r ha hr => ?_) ⟨Try.f26, rfl, by decide, rfl⟩
  simp only [s26] at ha hr
  unfold r26 at hr
  split at hr <;> try (cases hr; done)
  split at hr <;> cases hr
  rename_i x h
  refine ⟨_, rfl, (leads26 check_Of check_Set gue_bit gue_kind octet_Put hS _ _ x h).mono fun v H t hp => ?_⟩
  cases hp
  exact Res.val rfl trivial
def gue_Put : api_Cover → (List UInt8) → Option ((List UInt8) × Int) := gue_PutF check_Of check_Set gue_bit gue_kind octet_Put
theorem lift26 : SumOK Try.prog 26 (s26 gue_Put) := ok26 check_Of check_Set gue_bit gue_kind octet_Put (SumsOK.of_tab ⟨lift84, lift83, lift82, lift81, lift63, trivial⟩)
end Go.Vm.Code

namespace Go.Vm.Code
open Go Go.Vm Go.Proofs
set_option maxRecDepth 100000
set_option maxHeartbeats 4000000
set_option linter.unusedVariables false

/-! internal/stringslite.HasPrefix -/
def internal_stringslite_HasPrefixF (s : List UInt8) (prefixa1 : List UInt8) : Option Bool :=
  let t := decide ((s.length : Int) ≥ (prefixa1.length : Int))
  cond (t)
    (
    oreq (decide ((0 : Int) ≤ (prefixa1.length : Int) ∧ (prefixa1.length : Int) ≤ (s.length : Int))) <|
    some ((s.take prefixa1.length) == prefixa1))
    (
    some (false))
def post139 (x : Bool) (v : Value) (H : Hp) : Prop := v = .bool x
def r139 (g : (List UInt8) → (List UInt8) → Option Bool) : List SArg → Option SRes
  | [.v (.string ⟨⟨a0_1⟩⟩), .v (.string ⟨⟨a1_1⟩⟩)] => match g a0_1 a1_1 with | some x => some ⟨.bool x, [], []⟩ | none => none
  | _ => none
def s139 (g : (List UInt8) → (List UInt8) → Option Bool) : Summ := ⟨[.v, .v], r139 g⟩
theorem r139_eq {g : (List UInt8) → (List UInt8) → Option Bool} {a0_1 : List UInt8} {a1_1 : List UInt8} {x : Bool} (hx : g a0_1 a1_1 = some x) : (s139 g).run [.v (.string ⟨⟨a0_1⟩⟩), .v (.string ⟨⟨a1_1⟩⟩)] = some ⟨.bool x, [], []⟩ := by
  show r139 g [.v (.string ⟨⟨a0_1⟩⟩), .v (.string ⟨⟨a1_1⟩⟩)] = _
  simp only [r139, hx]
abbrev sums139 : List (Nat × Summ) := []
theorem leads139 (hS : SumsOK Try.prog (aget (sums139))) (s : List UInt8) (prefixa1 : List UInt8) (res : Bool) (h : internal_stringslite_HasPrefixF s prefixa1 = some res) :
    Leads Try.prog 139 0 ⟨⟨139, 18, [(0, .string ⟨⟨s⟩⟩), (1, .string ⟨⟨prefixa1⟩⟩)], [.code k139_3], [], false, none⟩, [], [], 0⟩ (fun v H _ => post139 res v H) := by
  unfold internal_stringslite_HasPrefixF at h
  refine ev_ok tab_ok hS true 3000 ?_
  conv => whnf
  let t : Bool := decide ((s.length : Int) ≥ (prefixa1.length : Int))
  refine br.h2 h ?_ ?_ ?_
  · rfl
  · clear h; intro hb h; conv => whnf
    all_goals (cases h)
    all_goals exact rfl
  clear h; intro hb h; conv => whnf
  replace h := oreq.elim h; have hb := h.1; replace h := h.2
  first | (refine req.intro hb ?_; conv => whnf) | skip
  all_goals (cases h)
  all_goals exact rfl
theorem ok139 (hS : SumsOK Try.prog (aget (sums139))) : SumOK Try.prog 139 (s139 (internal_stringslite_HasPrefixF)) := by
  refine SumOK.of_leads tab_ok (fun ar r ha hr => ?_) ⟨Try.f139, rfl, by decide, rfl⟩
  simp only [s139] at ha hr
  unfold r139 at hr
  split at hr <;> try (cases hr; done)
  split at hr <;> cases hr
  rename_i x h
  refine ⟨_, rfl, (leads139 hS _ _ x h).mono fun v H t hp => ?_⟩
  cases hp
  exact Res.val rfl trivial
def internal_stringslite_HasPrefix : (List UInt8) → (List UInt8) → Option Bool := internal_stringslite_HasPrefixF
theorem lift139 : SumOK Try.prog 139 (s139 internal_stringslite_HasPrefix) := ok139 (SumsOK.of_tab trivial)
end Go.Vm.Code

namespace Go.Vm.Code
open Go Go.Vm Go.Proofs
set_option maxRecDepth 100000
set_option maxHeartbeats 4000000
set_option linter.unusedVariables false

/-! internal/stringslite.CutPrefix -/
def internal_stringslite_CutPrefixF (internal_stringslite_HasPrefix : (List UInt8) → (List UInt8) → Option Bool) (s : List UInt8) (prefixa1 : List UInt8) : Option ((List UInt8) × Bool) :=
  (internal_stringslite_HasPrefix s prefixa1).bind fun xh =>
  cond (!xh)
    (
    some ((s, false)))
    (
    oreq (decide ((0 : Int) ≤ (prefixa1.length : Int) ∧ (prefixa1.length : Int) ≤ (s.length : Int))) <|
    let t := (s.drop prefixa1.length).take (s.length - prefixa1.length)
    some ((t, true)))
def post115 (x : (List UInt8) × Bool) (v : Value) (H : Hp) : Prop := v = .tuple ⟨[.string ⟨⟨x.1⟩⟩, .bool x.2]⟩
def r115 (g : (List UInt8) → (List UInt8) → Option ((List UInt8) × Bool)) : List SArg → Option SRes
  | [.v (.string ⟨⟨a0_1⟩⟩), .v (.string ⟨⟨a1_1⟩⟩)] => match g a0_1 a1_1 with | some x => some ⟨.tuple ⟨[.string ⟨⟨x.1⟩⟩, .bool x.2]⟩, [], []⟩ | none => none
  | _ => none
def s115 (g : (List UInt8) → (List UInt8) → Option ((List UInt8) × Bool)) : Summ := ⟨[.v, .v], r115 g⟩
theorem r115_eq {g : (List UInt8) → (List UInt8) → Option ((List UInt8) × Bool)} {a0_1 : List UInt8} {a1_1 : List UInt8} {x : (List UInt8) × Bool} (hx : g a0_1 a1_1 = some x) : (s115 g).run [.v (.string ⟨⟨a0_1⟩⟩), .v (.string ⟨⟨a1_1⟩⟩)] = some ⟨.tuple ⟨[.string ⟨⟨x.1⟩⟩, .bool x.2]⟩, [], []⟩ := by
  show r115 g [.v (.string ⟨⟨a0_1⟩⟩), .v (.string ⟨⟨a1_1⟩⟩)] = _
  simp only [r115, hx]
abbrev sums115 (internal_stringslite_HasPrefix : (List UInt8) → (List UInt8) → Option Bool) : List (Nat × Summ) := [(139, s139 internal_stringslite_HasPrefix)]
theorem leads115 (internal_stringslite_HasPrefix : (List UInt8) → (List UInt8) → Option Bool) (hS : SumsOK Try.prog (aget (sums115 internal_stringslite_HasPrefix))) (s : List UInt8) (prefixa1 : List UInt8) (res : (List UInt8) × Bool) (h : internal_stringslite_CutPrefixF internal_stringslite_HasPrefix s prefixa1 = some res) :
    Leads Try.prog 115 0 ⟨⟨115, 15, [(0, .string ⟨⟨s⟩⟩), (1, .string ⟨⟨prefixa1⟩⟩)], [.code k115_9], [], false, none⟩, [], [], 0⟩ (fun v H _ => post115 res v H) := by
  unfold internal_stringslite_CutPrefixF at h
  refine ev_ok tab_ok hS true 3000 ?_
  conv => whnf
  obtain ⟨xh, hy, h2⟩ := obind.elim h; clear h; have h := h2; clear h2
  refine sumK.introF [] (sumRun_of (aqs := [.v (.string ⟨⟨s⟩⟩), .v (.string ⟨⟨prefixa1⟩⟩)]) (ra_cons rfl (ra_cons rfl ra_nil)) (r139_eq hy) rfl rfl rfl rfl) ?_
  conv => whnf
  refine br.h h ?_ ?_ ?_
  · rfl
  · clear h; intro hb h; conv => whnf
    all_goals (cases h)
    all_goals exact rfl
  clear h; intro hb h; conv => whnf
  replace h := oreq.elim h; have hb := h.1; replace h := h.2
  first | (refine req.intro hb ?_; conv => whnf) | skip
  let t : List UInt8 := (s.drop prefixa1.length).take (s.length - prefixa1.length)
  all_goals (cases h)
  all_goals exact rfl
theorem ok115 (internal_stringslite_HasPrefix : (List UInt8) → (List UInt8) → Option Bool) (hS : SumsOK Try.prog (aget (sums115 internal_stringslite_HasPrefix))) : SumOK Try.prog 115 (s115 (internal_stringslite_CutPrefixF internal_stringslite_HasPrefix)) := by
  refine SumOK.of_leads tab_ok (fun ar r ha hr => ?_) ⟨Try.f115, rfl, by decide, rfl⟩
  simp only [s115] at ha hr
  unfold r115 at hr
  split at hr <;> try (cases hr; done)
  split at hr <;> cases hr
  rename_i x h
  refine ⟨_, rfl, (leads115 internal_stringslite_HasPrefix hS _ _ x h).mono fun v H t hp => ?_⟩
  cases hp
  exact Res.val rfl trivial
def internal_stringslite_CutPrefix : (List UInt8) → (List UInt8) → Option ((List UInt8) × Bool) := internal_stringslite_CutPrefixF internal_stringslite_HasPrefix
theorem lift115 : SumOK Try.prog 115 (s115 internal_stringslite_CutPrefix) := ok115 internal_stringslite_HasPrefix (SumsOK.of_tab ⟨lift139, trivial⟩)
end Go.Vm.Code

namespace Go.Vm.Code
open Go Go.Vm Go.Proofs
set_option maxRecDepth 100000
set_option maxHeartbeats 4000000
set_option linter.unusedVariables false

/-! strings.CutPrefix -/
def strings_CutPrefixF (internal_stringslite_CutPrefix : (List UInt8) → (List UInt8) → Option ((List UInt8) × Bool)) (s : List UInt8) (prefixa1 : List UInt8) : Option ((List UInt8) × Bool) :=
  (internal_stringslite_CutPrefix s prefixa1).bind fun c =>
  some ((c.1, c.2))
def post87 (x : (List UInt8) × Bool) (v : Value) (H : Hp) : Prop := v = .tuple ⟨[.string ⟨⟨x.1⟩⟩, .bool x.2]⟩
def r87 (g : (List UInt8) → (List UInt8) → Option ((List UInt8) × Bool)) : List SArg → Option SRes
  | [.v (.string ⟨⟨a0_1⟩⟩), .v (.string ⟨⟨a1_1⟩⟩)] => match g a0_1 a1_1 with | some x => some ⟨.tuple ⟨[.string ⟨⟨x.1⟩⟩, .bool x.2]⟩, [], []⟩ | none => none
  | _ => none
def s87 (g : (List UInt8) → (List UInt8) → Option ((List UInt8) × Bool)) : Summ := ⟨[.v, .v], r87 g⟩
theorem r87_eq {g : (List UInt8) → (List UInt8) → Option ((List UInt8) × Bool)} {a0_1 : List UInt8} {a1_1 : List UInt8} {x : (List UInt8) × Bool} (hx : g a0_1 a1_1 = some x) : (s87 g).run [.v (.string ⟨⟨a0_1⟩⟩), .v (.string ⟨⟨a1_1⟩⟩)] = some ⟨.tuple ⟨[.string ⟨⟨x.1⟩⟩, .bool x.2]⟩, [], []⟩ := by
  show r87 g [.v (.string ⟨⟨a0_1⟩⟩), .v (.string ⟨⟨a1_1⟩⟩)] = _
  simp only [r87, hx]
abbrev sums87 (internal_stringslite_CutPrefix : (List UInt8) → (List UInt8) → Option ((List UInt8) × Bool)) : List (Nat × Summ) := [(115, s115 internal_stringslite_CutPrefix)]
theorem leads87 (internal_stringslite_CutPrefix : (List UInt8) → (List UInt8) → Option ((List UInt8) × Bool)) (hS : SumsOK Try.prog (aget (sums87 internal_stringslite_CutPrefix))) (s : List UInt8) (prefixa1 : List UInt8) (res : (List UInt8) × Bool) (h : strings_CutPrefixF internal_stringslite_CutPrefix s prefixa1 = some res) :
    Leads Try.prog 87 0 ⟨⟨87, 11, [(0, .string ⟨⟨s⟩⟩), (1, .string ⟨⟨prefixa1⟩⟩)], [.code k87_3], [], false, none⟩, [], [], 0⟩ (fun v H _ => post87 res v H) := by
  unfold strings_CutPrefixF at h
  refine ev_ok tab_ok hS true 3000 ?_
  conv => whnf
  obtain ⟨c, hy, h2⟩ := obind.elim h; clear h; have h := h2; clear h2
  refine sumK.introF [] (sumRun_of (aqs := [.v (.string ⟨⟨s⟩⟩), .v (.string ⟨⟨prefixa1⟩⟩)]) (ra_cons rfl (ra_cons rfl ra_nil)) (r115_eq hy) rfl rfl rfl rfl) ?_
  conv => whnf
  all_goals (cases h)
  all_goals exact rfl
theorem ok87 (internal_stringslite_CutPrefix : (List UInt8) → (List UInt8) → Option ((List UInt8) × Bool)) (hS : SumsOK Try.prog (aget (sums87 internal_stringslite_CutPrefix))) : SumOK Try.prog 87 (s87 (strings_CutPrefixF internal_stringslite_CutPrefix)) := by
  refine SumOK.of_leads tab_ok (fun ar r ha hr => ?_) ⟨Try.f87, rfl, by decide, rfl⟩
  simp only [s87] at ha hr
  unfold r87 at hr
  split at hr <;> try (cases hr; done)
  split at hr <;> cases hr
  rename_i x h
  refine ⟨_, rfl, (leads87 internal_stringslite_CutPrefix hS _ _ x h).mono fun v H t hp => ?_⟩
  cases hp
  exact Res.val rfl trivial
def strings_CutPrefix : (List UInt8) → (List UInt8) → Option ((List UInt8) × Bool) := strings_CutPrefixF internal_stringslite_CutPrefix
theorem lift87 : SumOK Try.prog 87 (s87 strings_CutPrefix) := ok87 internal_stringslite_CutPrefix (SumsOK.of_tab ⟨lift115, trivial⟩)
end Go.Vm.Code

namespace Go.Vm.Code
open Go Go.Vm Go.Proofs
set_option maxRecDepth 100000
set_option maxHeartbeats 4000000
set_option linter.unusedVariables false

/-! cloakroom/gue.Get -/
def gue_GetF (check_Right : (List UInt8) → Option Bool) (gue_kind : Bool → Option Int) (octet_New : (List UInt8) → Option octet_Reader) (octet_Reader_Num : octet_Reader → Int → Option (Int × octet_Reader)) (strings_CutPrefix : (List UInt8) → (List UInt8) → Option ((List UInt8) × Bool)) (s : List UInt8) : Option (api_Cover × (List UInt8) × Int) :=
  cond (decide ((s.length : Int) < 18))
    (
    some ((api_Cover.mk false 0 0 false 0, [], 2)))
    (
    (strings_CutPrefix s [71, 85, 1]).bind fun c =>
    (octet_New c.1).bind fun n =>
    (octet_Reader_Num n 1).bind fun n1 =>
    (octet_Reader_Num n1.2 2).bind fun n2 =>
    (octet_Reader_Num n2.2 1).bind fun n3 =>
    (octet_Reader_Num n3.2 1).bind fun n4 =>
    (octet_Reader_Num n4.2 2).bind fun n5 =>
    (octet_Reader_Num n5.2 4).bind fun n6 =>
    (octet_Reader_Num n6.2 4).bind fun n7 =>
    let t := iorI .u64 (wI .u64 ((wI .u64 n6.1) * 2 ^ 32)) (wI .u64 n7.1)
    cond (!c.2)
      (
      some ((api_Cover.mk false 0 0 false 0, [], 3)))
      (
      (gue_kind (n1.1 == 41)).bind fun k =>
      cond (n1.1 != k)
        (
        some ((api_Cover.mk false 0 0 false 0, [], 3)))
        (
        cond (decide (n3.1 > 1))
          (
          some ((api_Cover.mk false 0 0 false 0, [], 3)))
          (
          cond (decide ((s.length : Int) > 9018))
            (
            some ((api_Cover.mk false 0 0 false 0, [], 5)))
            (
            oreq (decide ((0 : Int) ≤ (18 : Int) ∧ (18 : Int) ≤ (s.length : Int))) <|
            (check_Right (s.take 18)).bind fun xr =>
            cond (!xr)
              (
              some ((api_Cover.mk false 0 0 false 0, [], 4)))
              (
              oreq (decide ((0 : Int) ≤ (18 : Int) ∧ (18 : Int) ≤ (s.length : Int))) <|
              some ((api_Cover.mk (n1.1 == 41) n2.1 t (n3.1 == 1) n4.1, (s.drop 18).take (s.length - 18), 0))))))))
def post28 (x : api_Cover × (List UInt8) × Int) (v : Value) (H : Hp) : Prop := v = .tuple ⟨[.agg ⟨[.bool x.1.V6, .int .i64 x.1.Backend, .int .u64 x.1.Cookie, .bool x.1.First, .int .i64 x.1.Instance]⟩, .string ⟨⟨x.2.1⟩⟩, .int .i64 x.2.2]⟩
def r28 (g : (List UInt8) → Option (api_Cover × (List UInt8) × Int)) : List SArg → Option SRes
  | [.v (.string ⟨⟨a0_1⟩⟩)] => match g a0_1 with | some x => some ⟨.tuple ⟨[.agg ⟨[.bool x.1.V6, .int .i64 x.1.Backend, .int .u64 x.1.Cookie, .bool x.1.First, .int .i64 x.1.Instance]⟩, .string ⟨⟨x.2.1⟩⟩, .int .i64 x.2.2]⟩, [], []⟩ | none => none
  | _ => none
def s28 (g : (List UInt8) → Option (api_Cover × (List UInt8) × Int)) : Summ := ⟨[.v], r28 g⟩
theorem r28_eq {g : (List UInt8) → Option (api_Cover × (List UInt8) × Int)} {a0_1 : List UInt8} {x : api_Cover × (List UInt8) × Int} (hx : g a0_1 = some x) : (s28 g).run [.v (.string ⟨⟨a0_1⟩⟩)] = some ⟨.tuple ⟨[.agg ⟨[.bool x.1.V6, .int .i64 x.1.Backend, .int .u64 x.1.Cookie, .bool x.1.First, .int .i64 x.1.Instance]⟩, .string ⟨⟨x.2.1⟩⟩, .int .i64 x.2.2]⟩, [], []⟩ := by
  show r28 g [.v (.string ⟨⟨a0_1⟩⟩)] = _
  simp only [r28, hx]
abbrev sums28 (check_Right : (List UInt8) → Option Bool) (gue_kind : Bool → Option Int) (octet_New : (List UInt8) → Option octet_Reader) (octet_Reader_Num : octet_Reader → Int → Option (Int × octet_Reader)) (strings_CutPrefix : (List UInt8) → (List UInt8) → Option ((List UInt8) × Bool)) : List (Nat × Summ) := [(88, s88 check_Right), (81, s81 gue_kind), (67, s67 octet_New), (68, s68 octet_Reader_Num), (87, s87 strings_CutPrefix)]
theorem leads28 (check_Right : (List UInt8) → Option Bool) (gue_kind : Bool → Option Int) (octet_New : (List UInt8) → Option octet_Reader) (octet_Reader_Num : octet_Reader → Int → Option (Int × octet_Reader)) (strings_CutPrefix : (List UInt8) → (List UInt8) → Option ((List UInt8) × Bool)) (hS : SumsOK Try.prog (aget (sums28 check_Right gue_kind octet_New octet_Reader_Num strings_CutPrefix))) (s : List UInt8) (res : api_Cover × (List UInt8) × Int) (h : gue_GetF check_Right gue_kind octet_New octet_Reader_Num strings_CutPrefix s = some res) :
    Leads Try.prog 28 0 ⟨⟨28, 81, [(0, .string ⟨⟨s⟩⟩)], [.code k28_44], [], false, none⟩, [], [], 0⟩ (fun v H _ => post28 res v H) := by
  unfold gue_GetF at h
  refine ev_ok tab_ok hS true 3000 ?_
  conv => whnf
  refine br.h h ?_ ?_ ?_
  · rfl
  · clear h; intro hb h; conv => whnf
    all_goals (cases h)
    all_goals exact rfl
  clear h; intro hb h; conv => whnf
  obtain ⟨c, hy, h2⟩ := obind.elim h; clear h; have h := h2; clear h2
  refine sumK.introF [] (sumRun_of (aqs := [.v (.string ⟨⟨s⟩⟩), .v (.string ⟨⟨[71, 85, 1]⟩⟩)]) (ra_cons rfl (ra_cons rfl ra_nil)) (r87_eq hy) rfl rfl rfl rfl) ?_
  conv => whnf
  obtain ⟨n, hy, h2⟩ := obind.elim h; clear h; have h := h2; clear h2
  refine sumK.introF [] (sumRun_of (aqs := [.v (.string ⟨⟨c.1⟩⟩)]) (ra_cons rfl ra_nil) (r67_eq hy) rfl rfl rfl rfl) ?_
  conv => whnf
  obtain ⟨n1, hy, h2⟩ := obind.elim h; clear h; have h := h2; clear h2
  refine sumK.introF [1] (sumRun_of (aqs := [.pt [.string ⟨⟨n.s⟩⟩, .bool n.made, .bool n.bad], .v (.int .i64 1)]) (ra_cons rfl (ra_cons rfl ra_nil)) (r68_eq hy) rfl rfl rfl rfl) ?_
  conv => whnf
  obtain ⟨n2, hy, h2⟩ := obind.elim h; clear h; have h := h2; clear h2
  refine sumK.introF [1] (sumRun_of (aqs := [.pt [.string ⟨⟨n1.2.s⟩⟩, .bool n1.2.made, .bool n1.2.bad], .v (.int .i64 2)]) (ra_cons rfl (ra_cons rfl ra_nil)) (r68_eq hy) rfl rfl rfl rfl) ?_
  conv => whnf
  obtain ⟨n3, hy, h2⟩ := obind.elim h; clear h; have h := h2; clear h2
  refine sumK.introF [1] (sumRun_of (aqs := [.pt [.string ⟨⟨n2.2.s⟩⟩, .bool n2.2.made, .bool n2.2.bad], .v (.int .i64 1)]) (ra_cons rfl (ra_cons rfl ra_nil)) (r68_eq hy) rfl rfl rfl rfl) ?_
  conv => whnf
  obtain ⟨n4, hy, h2⟩ := obind.elim h; clear h; have h := h2; clear h2
  refine sumK.introF [1] (sumRun_of (aqs := [.pt [.string ⟨⟨n3.2.s⟩⟩, .bool n3.2.made, .bool n3.2.bad], .v (.int .i64 1)]) (ra_cons rfl (ra_cons rfl ra_nil)) (r68_eq hy) rfl rfl rfl rfl) ?_
  conv => whnf
  obtain ⟨n5, hy, h2⟩ := obind.elim h; clear h; have h := h2; clear h2
  refine sumK.introF [1] (sumRun_of (aqs := [.pt [.string ⟨⟨n4.2.s⟩⟩, .bool n4.2.made, .bool n4.2.bad], .v (.int .i64 2)]) (ra_cons rfl (ra_cons rfl ra_nil)) (r68_eq hy) rfl rfl rfl rfl) ?_
  conv => whnf
  obtain ⟨n6, hy, h2⟩ := obind.elim h; clear h; have h := h2; clear h2
  refine sumK.introF [1] (sumRun_of (aqs := [.pt [.string ⟨⟨n5.2.s⟩⟩, .bool n5.2.made, .bool n5.2.bad], .v (.int .i64 4)]) (ra_cons rfl (ra_cons rfl ra_nil)) (r68_eq hy) rfl rfl rfl rfl) ?_
  conv => whnf
  obtain ⟨n7, hy, h2⟩ := obind.elim h; clear h; have h := h2; clear h2
  refine sumK.introF [1] (sumRun_of (aqs := [.pt [.string ⟨⟨n6.2.s⟩⟩, .bool n6.2.made, .bool n6.2.bad], .v (.int .i64 4)]) (ra_cons rfl (ra_cons rfl ra_nil)) (r68_eq hy) rfl rfl rfl rfl) ?_
  conv => whnf
  let t : Int := iorI .u64 (wI .u64 ((wI .u64 n6.1) * 2 ^ 32)) (wI .u64 n7.1)
  refine br.h h ?_ ?_ ?_
  · rfl
  · clear h; intro hb h; conv => whnf
    all_goals (cases h)
    all_goals exact rfl
  clear h; intro hb h; conv => whnf
  obtain ⟨k, hy, h2⟩ := obind.elim h; clear h; have h := h2; clear h2
  refine sumK.introF [] (sumRun_of (aqs := [.v (.bool (n1.1 == 41))]) (ra_cons rfl ra_nil) (r81_eq hy) rfl rfl rfl rfl) ?_
  conv => whnf
  refine br.h h ?_ ?_ ?_
  · rfl
  · clear h; intro hb h; conv => whnf
    all_goals (cases h)
    all_goals exact rfl
  clear h; intro hb h; conv => whnf
  refine br.h h ?_ ?_ ?_
  · rfl
  · clear h; intro hb h; conv => whnf
    all_goals (cases h)
    all_goals exact rfl
  clear h; intro hb h; conv => whnf
  refine br.h h ?_ ?_ ?_
  · rfl
  · clear h; intro hb h; conv => whnf
    all_goals (cases h)
    all_goals exact rfl
  clear h; intro hb h; conv => whnf
  replace h := oreq.elim h; have hb := h.1; replace h := h.2
  first | (refine req.intro hb ?_; conv => whnf) | skip
  obtain ⟨xr, hy, h2⟩ := obind.elim h; clear h; have h := h2; clear h2
  refine sumK.introF [] (sumRun_of (aqs := [.v (.string ⟨⟨s.take 18⟩⟩)]) (ra_cons rfl ra_nil) (r88_eq hy) rfl rfl rfl rfl) ?_
  conv => whnf
  refine br.h h ?_ ?_ ?_
  · rfl
  · clear h; intro hb h; conv => whnf
    all_goals (cases h)
    all_goals exact rfl
  clear h; intro hb h; conv => whnf
  replace h := oreq.elim h; have hb := h.1; replace h := h.2
  first | (refine req.intro hb ?_; conv => whnf) | skip
  all_goals (cases h)
  all_goals exact rfl
theorem ok28 (check_Right : (List UInt8) → Option Bool) (gue_kind : Bool → Option Int) (octet_New : (List UInt8) → Option octet_Reader) (octet_Reader_Num : octet_Reader → Int → Option (Int × octet_Reader)) (strings_CutPrefix : (List UInt8) → (List UInt8) → Option ((List UInt8) × Bool)) (hS : SumsOK Try.prog (aget (sums28 check_Right gue_kind octet_New octet_Reader_Num strings_CutPrefix))) : SumOK Try.prog 28 (s28 (gue_GetF check_Right gue_kind octet_New octet_Reader_Num strings_CutPrefix)) := by
  refine SumOK.of_leads tab_ok (fun ar r ha hr => ?_) ⟨Try.f28, rfl, by decide, rfl⟩
  simp only [s28] at ha hr
  unfold r28 at hr
  split at hr <;> try (cases hr; done)
  split at hr <;> cases hr
  rename_i x h
  refine ⟨_, rfl, (leads28 check_Right gue_kind octet_New octet_Reader_Num strings_CutPrefix hS _ x h).mono fun v H t hp => ?_⟩
  cases hp
  exact Res.val rfl trivial
def gue_Get : (List UInt8) → Option (api_Cover × (List UInt8) × Int) := gue_GetF check_Right gue_kind octet_New octet_Reader_Num strings_CutPrefix
theorem lift28 : SumOK Try.prog 28 (s28 gue_Get) := ok28 check_Right gue_kind octet_New octet_Reader_Num strings_CutPrefix (SumsOK.of_tab ⟨lift88, lift81, lift67, lift68, lift87, trivial⟩)
end Go.Vm.Code

namespace Go.Vm.Code
open Go Go.Vm Go.Proofs
set_option maxRecDepth 100000
set_option maxHeartbeats 4000000
set_option linter.unusedVariables false

/-! cloakroom/cloakroomref10.Put -/
def R10_PutF (R02_Put : Int → Int → Option (List UInt8)) (R03_Of : (List UInt8) → Option Int) (R03_Set : (List UInt8) → Int → Int → Int → Option (List UInt8)) (c : api_Cover) (inner : List UInt8) : Option ((List UInt8) × Int) :=
  cond (decide (c.Backend < 0))
    (
    some (([], 1)))
    (
    cond (decide (c.Backend > 65535))
      (
      some (([], 1)))
      (
      cond (decide (c.Instance < 0))
        (
        some (([], 1)))
        (
        cond (decide (c.Instance > 255))
          (
          some (([], 1)))
          (
          cond (decide ((inner.length : Int) > 9000))
            (
            some (([], 5)))
            (
            cond (c.V6)
              (
              cond (c.First)
                (
                (R02_Put 41 1).bind fun p =>
                oreq (decide (3 + p.length < 2 ^ 63)) <|
                (R02_Put (wI .u64 c.Backend) 2).bind fun p1 =>
                oreq (decide (([71, 85, 1] ++ p).length + p1.length < 2 ^ 63)) <|
                (R02_Put 1 1).bind fun p2 =>
                oreq (decide ((([71, 85, 1] ++ p) ++ p1).length + p2.length < 2 ^ 63)) <|
                (R02_Put (wI .u64 c.Instance) 1).bind fun p3 =>
                oreq (decide (((([71, 85, 1] ++ p) ++ p1) ++ p2).length + p3.length < 2 ^ 63)) <|
                oreq (decide ((((([71, 85, 1] ++ p) ++ p1) ++ p2) ++ p3).length + 2 < 2 ^ 63)) <|
                let t := (((([71, 85, 1] ++ p) ++ p1) ++ p2) ++ p3) ++ [0, 0]
                (R02_Put c.Cookie 8).bind fun p4 =>
                oreq (decide (t.length + p4.length < 2 ^ 63)) <|
                (R03_Of (t ++ p4)).bind fun xo =>
                (R03_Set (t ++ p4) 8 2 (wI .u64 xo)).bind fun s =>
                oreq (decide (s.length + inner.length < 2 ^ 63)) <|
                some ((s ++ inner, 0)))
                (
                (R02_Put 41 1).bind fun p5 =>
                oreq (decide (3 + p5.length < 2 ^ 63)) <|
                (R02_Put (wI .u64 c.Backend) 2).bind fun p6 =>
                oreq (decide (([71, 85, 1] ++ p5).length + p6.length < 2 ^ 63)) <|
                (R02_Put 0 1).bind fun p7 =>
                oreq (decide ((([71, 85, 1] ++ p5) ++ p6).length + p7.length < 2 ^ 63)) <|
                (R02_Put (wI .u64 c.Instance) 1).bind fun p8 =>
                oreq (decide (((([71, 85, 1] ++ p5) ++ p6) ++ p7).length + p8.length < 2 ^ 63)) <|
                let t1 := ((([71, 85, 1] ++ p5) ++ p6) ++ p7) ++ p8
                oreq (decide (t1.length + 2 < 2 ^ 63)) <|
                (R02_Put c.Cookie 8).bind fun p9 =>
                oreq (decide ((t1 ++ [0, 0]).length + p9.length < 2 ^ 63)) <|
                (R03_Of ((t1 ++ [0, 0]) ++ p9)).bind fun xo1 =>
                (R03_Set ((t1 ++ [0, 0]) ++ p9) 8 2 (wI .u64 xo1)).bind fun s1 =>
                oreq (decide (s1.length + inner.length < 2 ^ 63)) <|
                some ((s1 ++ inner, 0))))
              (
              cond (c.First)
                (
                (R02_Put 4 1).bind fun p10 =>
                oreq (decide (3 + p10.length < 2 ^ 63)) <|
                (R02_Put (wI .u64 c.Backend) 2).bind fun p11 =>
                oreq (decide (([71, 85, 1] ++ p10).length + p11.length < 2 ^ 63)) <|
                (R02_Put 1 1).bind fun p12 =>
                oreq (decide ((([71, 85, 1] ++ p10) ++ p11).length + p12.length < 2 ^ 63)) <|
                (R02_Put (wI .u64 c.Instance) 1).bind fun p13 =>
                oreq (decide (((([71, 85, 1] ++ p10) ++ p11) ++ p12).length + p13.length < 2 ^ 63)) <|
                let t2 := ((([71, 85, 1] ++ p10) ++ p11) ++ p12) ++ p13
                oreq (decide (t2.length + 2 < 2 ^ 63)) <|
                (R02_Put c.Cookie 8).bind fun p14 =>
                oreq (decide ((t2 ++ [0, 0]).length + p14.length < 2 ^ 63)) <|
                (R03_Of ((t2 ++ [0, 0]) ++ p14)).bind fun xo2 =>
                (R03_Set ((t2 ++ [0, 0]) ++ p14) 8 2 (wI .u64 xo2)).bind fun s2 =>
                oreq (decide (s2.length + inner.length < 2 ^ 63)) <|
                some ((s2 ++ inner, 0)))
                (
                (R02_Put 4 1).bind fun p15 =>
                oreq (decide (3 + p15.length < 2 ^ 63)) <|
                (R02_Put (wI .u64 c.Backend) 2).bind fun p16 =>
                oreq (decide (([71, 85, 1] ++ p15).length + p16.length < 2 ^ 63)) <|
                (R02_Put 0 1).bind fun p17 =>
                oreq (decide ((([71, 85, 1] ++ p15) ++ p16).length + p17.length < 2 ^ 63)) <|
                (R02_Put (wI .u64 c.Instance) 1).bind fun p18 =>
                oreq (decide (((([71, 85, 1] ++ p15) ++ p16) ++ p17).length + p18.length < 2 ^ 63)) <|
                let t3 := ((([71, 85, 1] ++ p15) ++ p16) ++ p17) ++ p18
                oreq (decide (t3.length + 2 < 2 ^ 63)) <|
                (R02_Put c.Cookie 8).bind fun p19 =>
                oreq (decide ((t3 ++ [0, 0]).length + p19.length < 2 ^ 63)) <|
                (R03_Of ((t3 ++ [0, 0]) ++ p19)).bind fun xo3 =>
                (R03_Set ((t3 ++ [0, 0]) ++ p19) 8 2 (wI .u64 xo3)).bind fun s3 =>
                oreq (decide (s3.length + inner.length < 2 ^ 63)) <|
                some ((s3 ++ inner, 0)))))))))
def post27 (x : (List UInt8) × Int) (v : Value) (H : Hp) : Prop := v = .tuple ⟨[.string ⟨⟨x.1⟩⟩, .int .i64 x.2]⟩
def r27 (g : api_Cover → (List UInt8) → Option ((List UInt8) × Int)) : List SArg → Option SRes
  | [.v (.agg ⟨[.bool a0_1, .int .i64 a0_2, .int .u64 a0_3, .bool a0_4, .int .i64 a0_5]⟩), .v (.string ⟨⟨a1_1⟩⟩)] => match g (api_Cover.mk a0_1 a0_2 a0_3 a0_4 a0_5) a1_1 with | some x => some ⟨.tuple ⟨[.string ⟨⟨x.1⟩⟩, .int .i64 x.2]⟩, [], []⟩ | none => none
  | _ => none
def s27 (g : api_Cover → (List UInt8) → Option ((List UInt8) × Int)) : Summ := ⟨[.v, .v], r27 g⟩
theorem r27_eq {g : api_Cover → (List UInt8) → Option ((List UInt8) × Int)} {a0_1 : Bool} {a0_2 : Int} {a0_3 : Int} {a0_4 : Bool} {a0_5 : Int} {a1_1 : List UInt8} {x : (List UInt8) × Int} (hx : g (api_Cover.mk a0_1 a0_2 a0_3 a0_4 a0_5) a1_1 = some x) : (s27 g).run [.v (.agg ⟨[.bool a0_1, .int .i64 a0_2, .int .u64 a0_3, .bool a0_4, .int .i64 a0_5]⟩), .v (.string ⟨⟨a1_1⟩⟩)] = some ⟨.tuple ⟨[.string ⟨⟨x.1⟩⟩, .int .i64 x.2]⟩, [], []⟩ := by
  show r27 g [.v (.agg ⟨[.bool a0_1, .int .i64 a0_2, .int .u64 a0_3, .bool a0_4, .int .i64 a0_5]⟩), .v (.string ⟨⟨a1_1⟩⟩)] = _
  simp only [r27, hx]
abbrev sums27 (R02_Put : Int → Int → Option (List UInt8)) (R03_Of : (List UInt8) → Option Int) (R03_Set : (List UInt8) → Int → Int → Int → Option (List UInt8)) : List (Nat × Summ) := [(64, s64 R02_Put), (86, s86 R03_Of), (85, s85 R03_Set)]
theorem leads27 (R02_Put : Int → Int → Option (List UInt8)) (R03_Of : (List UInt8) → Option Int) (R03_Set : (List UInt8) → Int → Int → Int → Option (List UInt8)) (hS : SumsOK Try.prog (aget (sums27 R02_Put R03_Of R03_Set))) (c : api_Cover) (inner : List UInt8) (res : (List UInt8) × Int) (h : R10_PutF R02_Put R03_Of R03_Set c inner = some res) :
    Leads Try.prog 27 0 ⟨⟨27, 64, [(0, .agg ⟨[.bool c.V6, .int .i64 c.Backend, .int .u64 c.Cookie, .bool c.First, .int .i64 c.Instance]⟩), (1, .string ⟨⟨inner⟩⟩)], [.code k27_29], [], false, none⟩, [], [], 0⟩ (fun v H _ => post27 res v H) := by
  unfold R10_PutF at h
  refine ev_ok tab_ok hS true 3000 ?_
  conv => whnf
  refine br.h h ?_ ?_ ?_
  · rfl
  · clear h; intro hb h; conv => whnf
    all_goals (cases h)
    all_goals exact rfl
  clear h; intro hb h; conv => whnf
  refine br.h h ?_ ?_ ?_
  · rfl
  · clear h; intro hb h; conv => whnf
    all_goals (cases h)
    all_goals exact rfl
  clear h; intro hb h; conv => whnf
  refine br.h h ?_ ?_ ?_
  · rfl
  · clear h; intro hb h; conv => whnf
    all_goals (cases h)
    all_goals exact rfl
  clear h; intro hb h; conv => whnf
  refine br.h h ?_ ?_ ?_
  · rfl
  · clear h; intro hb h; conv => whnf
    all_goals (cases h)
    all_goals exact rfl
  clear h; intro hb h; conv => whnf
  refine br.h h ?_ ?_ ?_
  · rfl
  · clear h; intro hb h; conv => whnf
    all_goals (cases h)
    all_goals exact rfl
  clear h; intro hb h; conv => whnf
  refine br.h h ?_ ?_ ?_
  · rfl
  · clear h; intro hb h; conv => whnf
    refine br.h h ?_ ?_ ?_
    · rfl
    · clear h; intro hb h; conv => whnf
      obtain ⟨p, hy, h2⟩ := obind.elim h; clear h; have h := h2; clear h2
      refine sumK.introF [] (sumRun_of (aqs := [.v (.int .u64 41), .v (.int .i64 1)]) (ra_cons rfl (ra_cons rfl ra_nil)) (r64_eq hy) rfl rfl rfl rfl) ?_
      conv => whnf
      replace h := oreq.elim h; have hb := h.1; replace h := h.2
      first | (refine req.intro hb ?_; conv => whnf) | skip
      obtain ⟨p1, hy, h2⟩ := obind.elim h; clear h; have h := h2; clear h2
      refine sumK.introF [] (sumRun_of (aqs := [.v (.int .u64 (wI .u64 c.Backend)), .v (.int .i64 2)]) (ra_cons rfl (ra_cons rfl ra_nil)) (r64_eq hy) rfl rfl rfl rfl) ?_
      conv => whnf
      replace h := oreq.elim h; have hb := h.1; replace h := h.2
      first | (refine req.intro hb ?_; conv => whnf) | skip
      obtain ⟨p2, hy, h2⟩ := obind.elim h; clear h; have h := h2; clear h2
      refine sumK.introF [] (sumRun_of (aqs := [.v (.int .u64 1), .v (.int .i64 1)]) (ra_cons rfl (ra_cons rfl ra_nil)) (r64_eq hy) rfl rfl rfl rfl) ?_
      conv => whnf
      replace h := oreq.elim h; have hb := h.1; replace h := h.2
      first | (refine req.intro hb ?_; conv => whnf) | skip
      obtain ⟨p3, hy, h2⟩ := obind.elim h; clear h; have h := h2; clear h2
      refine sumK.introF [] (sumRun_of (aqs := [.v (.int .u64 (wI .u64 c.Instance)), .v (.int .i64 1)]) (ra_cons rfl (ra_cons rfl ra_nil)) (r64_eq hy) rfl rfl rfl rfl) ?_
      conv => whnf
      replace h := oreq.elim h; have hb := h.1; replace h := h.2
      first | (refine req.intro hb ?_; conv => whnf) | skip
      replace h := oreq.elim h; have hb := h.1; replace h := h.2
      first | (refine req.intro hb ?_; conv => whnf) | skip
      let t : List UInt8 := (((([71, 85, 1] ++ p) ++ p1) ++ p2) ++ p3) ++ [0, 0]
      obtain ⟨p4, hy, h2⟩ := obind.elim h; clear h; have h := h2; clear h2
      refine sumK.introF [] (sumRun_of (aqs := [.v (.int .u64 c.Cookie), .v (.int .i64 8)]) (ra_cons rfl (ra_cons rfl ra_nil)) (r64_eq hy) rfl rfl rfl rfl) ?_
      conv => whnf
      replace h := oreq.elim h; have hb := h.1; replace h := h.2
      first | (refine req.intro hb ?_; conv => whnf) | skip
      obtain ⟨xo, hy, h2⟩ := obind.elim h; clear h; have h := h2; clear h2
      refine sumK.introF [] (sumRun_of (aqs := [.v (.string ⟨⟨t ++ p4⟩⟩)]) (ra_cons rfl ra_nil) (r86_eq hy) rfl rfl rfl rfl) ?_
      conv => whnf
      obtain ⟨s, hy, h2⟩ := obind.elim h; clear h; have h := h2; clear h2
      refine sumK.introF [] (sumRun_of (aqs := [.v (.string ⟨⟨t ++ p4⟩⟩), .v (.int .i64 8), .v (.int .i64 2), .v (.int .u64 (wI .u64 xo))]) (ra_cons rfl (ra_cons rfl (ra_cons rfl (ra_cons rfl ra_nil)))) (r85_eq hy) rfl rfl rfl rfl) ?_
      conv => whnf
      replace h := oreq.elim h; have hb := h.1; replace h := h.2
      first | (refine req.intro hb ?_; conv => whnf) | skip
      all_goals (cases h)
      all_goals exact rfl
    clear h; intro hb h; conv => whnf
    obtain ⟨p5, hy, h2⟩ := obind.elim h; clear h; have h := h2; clear h2
    refine sumK.introF [] (sumRun_of (aqs := [.v (.int .u64 41), .v (.int .i64 1)]) (ra_cons rfl (ra_cons rfl ra_nil)) (r64_eq hy) rfl rfl rfl rfl) ?_
    conv => whnf
    replace h := oreq.elim h; have hb := h.1; replace h := h.2
    first | (refine req.intro hb ?_; conv => whnf) | skip
    obtain ⟨p6, hy, h2⟩ := obind.elim h; clear h; have h := h2; clear h2
    refine sumK.introF [] (sumRun_of (aqs := [.v (.int .u64 (wI .u64 c.Backend)), .v (.int .i64 2)]) (ra_cons rfl (ra_cons rfl ra_nil)) (r64_eq hy) rfl rfl rfl rfl) ?_
    conv => whnf
    replace h := oreq.elim h; have hb := h.1; replace h := h.2
    first | (refine req.intro hb ?_; conv => whnf) | skip
    obtain ⟨p7, hy, h2⟩ := obind.elim h; clear h; have h := h2; clear h2
    refine sumK.introF [] (sumRun_of (aqs := [.v (.int .u64 0), .v (.int .i64 1)]) (ra_cons rfl (ra_cons rfl ra_nil)) (r64_eq hy) rfl rfl rfl rfl) ?_
    conv => whnf
    replace h := oreq.elim h; have hb := h.1; replace h := h.2
    first | (refine req.intro hb ?_; conv => whnf) | skip
    obtain ⟨p8, hy, h2⟩ := obind.elim h; clear h; have h := h2; clear h2
    refine sumK.introF [] (sumRun_of (aqs := [.v (.int .u64 (wI .u64 c.Instance)), .v (.int .i64 1)]) (ra_cons rfl (ra_cons rfl ra_nil)) (r64_eq hy) rfl rfl rfl rfl) ?_
    conv => whnf
    replace h := oreq.elim h; have hb := h.1; replace h := h.2
    first | (refine req.intro hb ?_; conv => whnf) | skip
    let t1 : List UInt8 := ((([71, 85, 1] ++ p5) ++ p6) ++ p7) ++ p8
    replace h := oreq.elim h; have hb := h.1; replace h := h.2
    first | (refine req.intro hb ?_; conv => whnf) | skip
    obtain ⟨p9, hy, h2⟩ := obind.elim h; clear h; have h := h2; clear h2
    refine sumK.introF [] (sumRun_of (aqs := [.v (.int .u64 c.Cookie), .v (.int .i64 8)]) (ra_cons rfl (ra_cons rfl ra_nil)) (r64_eq hy) rfl rfl rfl rfl) ?_
    conv => whnf
    replace h := oreq.elim h; have hb := h.1; replace h := h.2
    first | (refine req.intro hb ?_; conv => whnf) | skip
    obtain ⟨xo1, hy, h2⟩ := obind.elim h; clear h; have h := h2; clear h2
    refine sumK.introF [] (sumRun_of (aqs := [.v (.string ⟨⟨(t1 ++ [0, 0]) ++ p9⟩⟩)]) (ra_cons rfl ra_nil) (r86_eq hy) rfl rfl rfl rfl) ?_
    conv => whnf
    obtain ⟨s1, hy, h2⟩ := obind.elim h; clear h; have h := h2; clear h2
    refine sumK.introF [] (sumRun_of (aqs := [.v (.string ⟨⟨(t1 ++ [0, 0]) ++ p9⟩⟩), .v (.int .i64 8), .v (.int .i64 2), .v (.int .u64 (wI .u64 xo1))]) (ra_cons rfl (ra_cons rfl (ra_cons rfl (ra_cons rfl ra_nil)))) (r85_eq hy) rfl rfl rfl rfl) ?_
    conv => whnf
    replace h := oreq.elim h; have hb := h.1; replace h := h.2
    first | (refine req.intro hb ?_; conv => whnf) | skip
    all_goals (cases h)
    all_goals exact rfl
  clear h; intro hb h; conv => whnf
  refine br.h h ?_ ?_ ?_
  · rfl
  · clear h; intro hb h; conv => whnf
    obtain ⟨p10, hy, h2⟩ := obind.elim h; clear h; have h := h2; clear h2
    refine sumK.introF [] (sumRun_of (aqs := [.v (.int .u64 4), .v (.int .i64 1)]) (ra_cons rfl (ra_cons rfl ra_nil)) (r64_eq hy) rfl rfl rfl rfl) ?_
    conv => whnf
    replace h := oreq.elim h; have hb := h.1; replace h := h.2
    first | (refine req.intro hb ?_; conv => whnf) | skip
    obtain ⟨p11, hy, h2⟩ := obind.elim h; clear h; have h := h2; clear h2
    refine sumK.introF [] (sumRun_of (aqs := [.v (.int .u64 (wI .u64 c.Backend)), .v (.int .i64 2)]) (ra_cons rfl (ra_cons rfl ra_nil)) (r64_eq hy) rfl rfl rfl rfl) ?_
    conv => whnf
    replace h := oreq.elim h; have hb := h.1; replace h := h.2
    first | (refine req.intro hb ?_; conv => whnf) | skip
    obtain ⟨p12, hy, h2⟩ := obind.elim h; clear h; have h := h2; clear h2
    refine sumK.introF [] (sumRun_of (aqs := [.v (.int .u64 1), .v (.int .i64 1)]) (ra_cons rfl (ra_cons rfl ra_nil)) (r64_eq hy) rfl rfl rfl rfl) ?_
    conv => whnf
    replace h := oreq.elim h; have hb := h.1; replace h := h.2
    first | (refine req.intro hb ?_; conv => whnf) | skip
    obtain ⟨p13, hy, h2⟩ := obind.elim h; clear h; have h := h2; clear h2
    refine sumK.introF [] (sumRun_of (aqs := [.v (.int .u64 (wI .u64 c.Instance)), .v (.int .i64 1)]) (ra_cons rfl (ra_cons rfl ra_nil)) (r64_eq hy) rfl rfl rfl rfl) ?_
    conv => whnf
    replace h := oreq.elim h; have hb := h.1; replace h := h.2
    first | (refine req.intro hb ?_; conv => whnf) | skip
    let t2 : List UInt8 := ((([71, 85, 1] ++ p10) ++ p11) ++ p12) ++ p13
    replace h := oreq.elim h; have hb := h.1; replace h := h.2
    first | (refine req.intro hb ?_; conv => whnf) | skip
    obtain ⟨p14, hy, h2⟩ := obind.elim h; clear h; have h := h2; clear h2
    refine sumK.introF [] (sumRun_of (aqs := [.v (.int .u64 c.Cookie), .v (.int .i64 8)]) (ra_cons rfl (ra_cons rfl ra_nil)) (r64_eq hy) rfl rfl rfl rfl) ?_
    conv => whnf
    replace h := oreq.elim h; have hb := h.1; replace h := h.2
    first | (refine req.intro hb ?_; conv => whnf) | skip
    obtain ⟨xo2, hy, h2⟩ := obind.elim h; clear h; have h := h2; clear h2
    refine sumK.introF [] (sumRun_of (aqs := [.v (.string ⟨⟨(t2 ++ [0, 0]) ++ p14⟩⟩)]) (ra_cons rfl ra_nil) (r86_eq hy) rfl rfl rfl rfl) ?_
    conv => whnf
    obtain ⟨s2, hy, h2⟩ := obind.elim h; clear h; have h := h2; clear h2
    refine sumK.introF [] (sumRun_of (aqs := [.v (.string ⟨⟨(t2 ++ [0, 0]) ++ p14⟩⟩), .v (.int .i64 8), .v (.int .i64 2), .v (.int .u64 (wI .u64 xo2))]) (ra_cons rfl (ra_cons rfl (ra_cons rfl (ra_cons rfl ra_nil)))) (r85_eq hy) rfl rfl rfl rfl) ?_
    conv => whnf
    replace h := oreq.elim h; have hb := h.1; replace h := h.2
    first | (refine req.intro hb ?_; conv => whnf) | skip
    all_goals (cases h)
    all_goals exact rfl
  clear h; intro hb h; conv => whnf
  obtain ⟨p15, hy, h2⟩ := obind.elim h; clear h; have h := h2; clear h2
  refine sumK.introF [] (sumRun_of (aqs := [.v (.int .u64 4), .v (.int .i64 1)]) (ra_cons rfl (ra_cons rfl ra_nil)) (r64_eq hy) rfl rfl rfl rfl) ?_
  conv => whnf
  replace h := oreq.elim h; have hb := h.1; replace h := h.2
  first | (refine req.intro hb ?_; conv => whnf) | skip
  obtain ⟨p16, hy, h2⟩ := obind.elim h; clear h; have h := h2; clear h2
  refine sumK.introF [] (sumRun_of (aqs := [.v (.int .u64 (wI .u64 c.Backend)), .v (.int .i64 2)]) (ra_cons rfl (ra_cons rfl ra_nil)) (r64_eq hy) rfl rfl rfl rfl) ?_
  conv => whnf
  replace h := oreq.elim h; have hb := h.1; replace h := h.2
  first | (refine req.intro hb ?_; conv => whnf) | skip
  obtain ⟨p17, hy, h2⟩ := obind.elim h; clear h; have h := h2; clear h2
  refine sumK.introF [] (sumRun_of (aqs := [.v (.int .u64 0), .v (.int .i64 1)]) (ra_cons rfl (ra_cons rfl ra_nil)) (r64_eq hy) rfl rfl rfl rfl) ?_
  conv => whnf
  replace h := oreq.elim h; have hb := h.1; replace h := h.2
  first | (refine req.intro hb ?_; conv => whnf) | skip
  obtain ⟨p18, hy, h2⟩ := obind.elim h; clear h; have h := h2; clear h2
  refine sumK.introF [] (sumRun_of (aqs := [.v (.int .u64 (wI .u64 c.Instance)), .v (.int .i64 1)]) (ra_cons rfl (ra_cons rfl ra_nil)) (r64_eq hy) rfl rfl rfl rfl) ?_
  conv => whnf
  replace h := oreq.elim h; have hb := h.1; replace h := h.2
  first | (refine req.intro hb ?_; conv => whnf) | skip
  let t3 : List UInt8 := ((([71, 85, 1] ++ p15) ++ p16) ++ p17) ++ p18
  replace h := oreq.elim h; have hb := h.1; replace h := h.2
  first | (refine req.intro hb ?_; conv => whnf) | skip
  obtain ⟨p19, hy, h2⟩ := obind.elim h; clear h; have h := h2; clear h2
  refine sumK.introF [] (sumRun_of (aqs := [.v (.int .u64 c.Cookie), .v (.int .i64 8)]) (ra_cons rfl (ra_cons rfl ra_nil)) (r64_eq hy) rfl rfl rfl rfl) ?_
  conv => whnf
  replace h := oreq.elim h; have hb := h.1; replace h := h.2
  first | (refine req.intro hb ?_; conv => whnf) | skip
  obtain ⟨xo3, hy, h2⟩ := obind.elim h; clear h; have h := h2; clear h2
  refine sumK.introF [] (sumRun_of (aqs := [.v (.string ⟨⟨(t3 ++ [0, 0]) ++ p19⟩⟩)]) (ra_cons rfl ra_nil) (r86_eq hy) rfl rfl rfl rfl) ?_
  conv => whnf
  obtain ⟨s3, hy, h2⟩ := obind.elim h; clear h; have h := h2; clear h2
  refine sumK.introF [] (sumRun_of (aqs := [.v (.string ⟨⟨(t3 ++ [0, 0]) ++ p19⟩⟩), .v (.int .i64 8), .v (.int .i64 2), .v (.int .u64 (wI .u64 xo3))]) (ra_cons rfl (ra_cons rfl (ra_cons rfl (ra_cons rfl ra_nil)))) (r85_eq hy) rfl rfl rfl rfl) ?_
  conv => whnf
  replace h := oreq.elim h; have hb := h.1; replace h := h.2
  first | (refine req.intro hb ?_; conv => whnf) | skip
  all_goals (cases h)
  all_goals exact rfl
theorem ok27 (R02_Put : Int → Int → Option (List UInt8)) (R03_Of : (List UInt8) → Option Int) (R03_Set : (List UInt8) → Int → Int → Int → Option (List UInt8)) (hS : SumsOK Try.prog (aget (sums27 R02_Put R03_Of R03_Set))) : SumOK Try.prog 27 (s27 (R10_PutF R02_Put R03_Of R03_Set)) := by
  refine SumOK.of_leads tab_ok (fun ar r ha hr => ?_) ⟨Try.f27, rfl, by decide, rfl⟩
  simp only [s27] at ha hr
  unfold r27 at hr
  split at hr <;> try (cases hr; done)
  split at hr <;> cases hr
  rename_i x h
  refine ⟨_, rfl, (leads27 R02_Put R03_Of R03_Set hS _ _ x h).mono fun v H t hp => ?_⟩
  cases hp
  exact Res.val rfl trivial
def R10_Put : api_Cover → (List UInt8) → Option ((List UInt8) × Int) := R10_PutF R02_Put R03_Of R03_Set
theorem lift27 : SumOK Try.prog 27 (s27 R10_Put) := ok27 R02_Put R03_Of R03_Set (SumsOK.of_tab ⟨lift64, lift86, lift85, trivial⟩)
end Go.Vm.Code

namespace Go.Vm.Code
open Go Go.Vm Go.Proofs
set_option maxRecDepth 100000
set_option maxHeartbeats 4000000
set_option linter.unusedVariables false

/-! cloakroom/cloakroomref10.Get -/
def R10_GetF (R02_Get : (List UInt8) → Int → Int → Option (Int × Bool)) (R02_Must : (List UInt8) → Int → Int → Option Int) (R03_Sum : (List UInt8) → Option Int) (s : List UInt8) : Option (api_Cover × (List UInt8) × Int) :=
  cond (decide ((s.length : Int) < 18))
    (
    some ((api_Cover.mk false 0 0 false 0, [], 2)))
    (
    oreq (decide ((0 : Int) ≤ (3 : Int) ∧ (3 : Int) ≤ (s.length : Int))) <|
    cond (!((s.take 3) == [71, 85, 1]))
      (
      some ((api_Cover.mk false 0 0 false 0, [], 3)))
      (
      (s[3]?).bind fun (b : UInt8) =>
      cond ((b.toNat : Int) != 4)
        (
        (s[3]?).bind fun (b1 : UInt8) =>
        cond ((b1.toNat : Int) != 41)
          (
          some ((api_Cover.mk false 0 0 false 0, [], 3)))
          (
          (s[6]?).bind fun (b2 : UInt8) =>
          cond (decide ((b2.toNat : Int) > 1))
            (
            some ((api_Cover.mk false 0 0 false 0, [], 3)))
            (
            cond (decide ((s.length : Int) > 9018))
              (
              some ((api_Cover.mk false 0 0 false 0, [], 5)))
              (
              oreq (decide ((0 : Int) ≤ (18 : Int) ∧ (18 : Int) ≤ (s.length : Int))) <|
              (R03_Sum (s.take 18)).bind fun s1 =>
              cond (s1 != 65535)
                (
                some ((api_Cover.mk false 0 0 false 0, [], 4)))
                (
                (R02_Get s 10 8).bind fun xg =>
                (s[3]?).bind fun (b3 : UInt8) =>
                (R02_Must s 4 2).bind fun m =>
                (s[6]?).bind fun (b4 : UInt8) =>
                (s[7]?).bind fun (b5 : UInt8) =>
                oreq (decide ((0 : Int) ≤ (18 : Int) ∧ (18 : Int) ≤ (s.length : Int))) <|
                some ((api_Cover.mk ((b3.toNat : Int) == 41) m xg.1 ((b4.toNat : Int) == 1) (wI .i64 (b5.toNat : Int)), (s.drop 18).take (s.length - 18), 0)))))))
        (
        (s[6]?).bind fun (b6 : UInt8) =>
        cond (decide ((b6.toNat : Int) > 1))
          (
          some ((api_Cover.mk false 0 0 false 0, [], 3)))
          (
          cond (decide ((s.length : Int) > 9018))
            (
            some ((api_Cover.mk false 0 0 false 0, [], 5)))
            (
            oreq (decide ((0 : Int) ≤ (18 : Int) ∧ (18 : Int) ≤ (s.length : Int))) <|
            (R03_Sum (s.take 18)).bind fun s2 =>
            cond (s2 != 65535)
              (
              some ((api_Cover.mk false 0 0 false 0, [], 4)))
              (
              (R02_Get s 10 8).bind fun xg1 =>
              (s[3]?).bind fun (b7 : UInt8) =>
              (R02_Must s 4 2).bind fun m1 =>
              (s[6]?).bind fun (b8 : UInt8) =>
              (s[7]?).bind fun (b9 : UInt8) =>
              oreq (decide ((0 : Int) ≤ (18 : Int) ∧ (18 : Int) ≤ (s.length : Int))) <|
              some ((api_Cover.mk ((b7.toNat : Int) == 41) m1 xg1.1 ((b8.toNat : Int) == 1) (wI .i64 (b9.toNat : Int)), (s.drop 18).take (s.length - 18), 0))))))))
def post29 (x : api_Cover × (List UInt8) × Int) (v : Value) (H : Hp) : Prop := v = .tuple ⟨[.agg ⟨[.bool x.1.V6, .int .i64 x.1.Backend, .int .u64 x.1.Cookie, .bool x.1.First, .int .i64 x.1.Instance]⟩, .string ⟨⟨x.2.1⟩⟩, .int .i64 x.2.2]⟩
def r29 (g : (List UInt8) → Option (api_Cover × (List UInt8) × Int)) : List SArg → Option SRes
  | [.v (.string ⟨⟨a0_1⟩⟩)] => match g a0_1 with | some x => some ⟨.tuple ⟨[.agg ⟨[.bool x.1.V6, .int .i64 x.1.Backend, .int .u64 x.1.Cookie, .bool x.1.First, .int .i64 x.1.Instance]⟩, .string ⟨⟨x.2.1⟩⟩, .int .i64 x.2.2]⟩, [], []⟩ | none => none
  | _ => none
def s29 (g : (List UInt8) → Option (api_Cover × (List UInt8) × Int)) : Summ := ⟨[.v], r29 g⟩
theorem r29_eq {g : (List UInt8) → Option (api_Cover × (List UInt8) × Int)} {a0_1 : List UInt8} {x : api_Cover × (List UInt8) × Int} (hx : g a0_1 = some x) : (s29 g).run [.v (.string ⟨⟨a0_1⟩⟩)] = some ⟨.tuple ⟨[.agg ⟨[.bool x.1.V6, .int .i64 x.1.Backend, .int .u64 x.1.Cookie, .bool x.1.First, .int .i64 x.1.Instance]⟩, .string ⟨⟨x.2.1⟩⟩, .int .i64 x.2.2]⟩, [], []⟩ := by
  show r29 g [.v (.string ⟨⟨a0_1⟩⟩)] = _
  simp only [r29, hx]
abbrev sums29 (R02_Get : (List UInt8) → Int → Int → Option (Int × Bool)) (R02_Must : (List UInt8) → Int → Int → Option Int) (R03_Sum : (List UInt8) → Option Int) : List (Nat × Summ) := [(60, s60 R02_Get), (79, s79 R02_Must), (89, s89 R03_Sum)]
theorem leads29 (R02_Get : (List UInt8) → Int → Int → Option (Int × Bool)) (R02_Must : (List UInt8) → Int → Int → Option Int) (R03_Sum : (List UInt8) → Option Int) (hS : SumsOK Try.prog (aget (sums29 R02_Get R02_Must R03_Sum))) (s : List UInt8) (res : api_Cover × (List UInt8) × Int) (h : R10_GetF R02_Get R02_Must R03_Sum s = some res) :
    Leads Try.prog 29 0 ⟨⟨29, 59, [(0, .string ⟨⟨s⟩⟩)], [.code k29_29], [], false, none⟩, [], [], 0⟩ (fun v H _ => post29 res v H) := by
  unfold R10_GetF at h
  refine ev_ok tab_ok hS true 3000 ?_
  conv => whnf
  refine br.h h ?_ ?_ ?_
  · rfl
  · clear h; intro hb h; conv => whnf
    all_goals (cases h)
    all_goals exact rfl
  clear h; intro hb h; conv => whnf
  replace h := oreq.elim h; have hb := h.1; replace h := h.2
  first | (refine req.intro hb ?_; conv => whnf) | skip
  refine br.h h ?_ ?_ ?_
  · rfl
  · clear h; intro hb h; conv => whnf
    all_goals (cases h)
    all_goals exact rfl
  clear h; intro hb h; conv => whnf
  obtain ⟨b, hy, h2⟩ := obind.elim h; clear h; have h := h2; clear h2
  refine rdS.intro hy ?_
  conv => whnf
  refine br.h2 h ?_ ?_ ?_
  · rfl
  · clear h; intro hb h; conv => whnf
    obtain ⟨b6, hy, h2⟩ := obind.elim h; clear h; have h := h2; clear h2
    refine rdS.intro hy ?_
    conv => whnf
    refine br.h h ?_ ?_ ?_
    · rfl
    · clear h; intro hb h; conv => whnf
      all_goals (cases h)
      all_goals exact rfl
    clear h; intro hb h; conv => whnf
    refine br.h h ?_ ?_ ?_
    · rfl
    · clear h; intro hb h; conv => whnf
      all_goals (cases h)
      all_goals exact rfl
    clear h; intro hb h; conv => whnf
    replace h := oreq.elim h; have hb := h.1; replace h := h.2
    first | (refine req.intro hb ?_; conv => whnf) | skip
    obtain ⟨s2, hy, h2⟩ := obind.elim h; clear h; have h := h2; clear h2
    refine sumK.introF [] (sumRun_of (aqs := [.v (.string ⟨⟨s.take 18⟩⟩)]) (ra_cons rfl ra_nil) (r89_eq hy) rfl rfl rfl rfl) ?_
    conv => whnf
    refine br.h h ?_ ?_ ?_
    · rfl
    · clear h; intro hb h; conv => whnf
      all_goals (cases h)
      all_goals exact rfl
    clear h; intro hb h; conv => whnf
    obtain ⟨xg1, hy, h2⟩ := obind.elim h; clear h; have h := h2; clear h2
    refine sumK.introF [] (sumRun_of (aqs := [.v (.string ⟨⟨s⟩⟩), .v (.int .i64 10), .v (.int .i64 8)]) (ra_cons rfl (ra_cons rfl (ra_cons rfl ra_nil))) (r60_eq hy) rfl rfl rfl rfl) ?_
    conv => whnf
    obtain ⟨b7, hy, h2⟩ := obind.elim h; clear h; have h := h2; clear h2
    refine rdS.intro hy ?_
    conv => whnf
    obtain ⟨m1, hy, h2⟩ := obind.elim h; clear h; have h := h2; clear h2
    refine sumK.introF [] (sumRun_of (aqs := [.v (.string ⟨⟨s⟩⟩), .v (.int .i64 4), .v (.int .i64 2)]) (ra_cons rfl (ra_cons rfl (ra_cons rfl ra_nil))) (r79_eq hy) rfl rfl rfl rfl) ?_
    conv => whnf
    obtain ⟨b8, hy, h2⟩ := obind.elim h; clear h; have h := h2; clear h2
    refine rdS.intro hy ?_
    conv => whnf
    obtain ⟨b9, hy, h2⟩ := obind.elim h; clear h; have h := h2; clear h2
    refine rdS.intro hy ?_
    conv => whnf
    replace h := oreq.elim h; have hb := h.1; replace h := h.2
    first | (refine req.intro hb ?_; conv => whnf) | skip
    all_goals (cases h)
    all_goals exact rfl
  clear h; intro hb h; conv => whnf
  obtain ⟨b1, hy, h2⟩ := obind.elim h; clear h; have h := h2; clear h2
  refine rdS.intro hy ?_
  conv => whnf
  refine br.h h ?_ ?_ ?_
  · rfl
  · clear h; intro hb h; conv => whnf
    all_goals (cases h)
    all_goals exact rfl
  clear h; intro hb h; conv => whnf
  obtain ⟨b2, hy, h2⟩ := obind.elim h; clear h; have h := h2; clear h2
  refine rdS.intro hy ?_
  conv => whnf
  refine br.h h ?_ ?_ ?_
  · rfl
  · clear h; intro hb h; conv => whnf
    all_goals (cases h)
    all_goals exact rfl
  clear h; intro hb h; conv => whnf
  refine br.h h ?_ ?_ ?_
  · rfl
  · clear h; intro hb h; conv => whnf
    all_goals (cases h)
    all_goals exact rfl
  clear h; intro hb h; conv => whnf
  replace h := oreq.elim h; have hb := h.1; replace h := h.2
  first | (refine req.intro hb ?_; conv => whnf) | skip
  obtain ⟨s1, hy, h2⟩ := obind.elim h; clear h; have h := h2; clear h2
  refine sumK.introF [] (sumRun_of (aqs := [.v (.string ⟨⟨s.take 18⟩⟩)]) (ra_cons rfl ra_nil) (r89_eq hy) rfl rfl rfl rfl) ?_
  conv => whnf
  refine br.h h ?_ ?_ ?_
  · rfl
  · clear h; intro hb h; conv => whnf
    all_goals (cases h)
    all_goals exact rfl
  clear h; intro hb h; conv => whnf
  obtain ⟨xg, hy, h2⟩ := obind.elim h; clear h; have h := h2; clear h2
  refine sumK.introF [] (sumRun_of (aqs := [.v (.string ⟨⟨s⟩⟩), .v (.int .i64 10), .v (.int .i64 8)]) (ra_cons rfl (ra_cons rfl (ra_cons rfl ra_nil))) (r60_eq hy) rfl rfl rfl rfl) ?_
  conv => whnf
  obtain ⟨b3, hy, h2⟩ := obind.elim h; clear h; have h := h2; clear h2
  refine rdS.intro hy ?_
  conv => whnf
  obtain ⟨m, hy, h2⟩ := obind.elim h; clear h; have h := h2; clear h2
  refine sumK.introF [] (sumRun_of (aqs := [.v (.string ⟨⟨s⟩⟩), .v (.int .i64 4), .v (.int .i64 2)]) (ra_cons rfl (ra_cons rfl (ra_cons rfl ra_nil))) (r79_eq hy) rfl rfl rfl rfl) ?_
  conv => whnf
  obtain ⟨b4, hy, h2⟩ := obind.elim h; clear h; have h := h2; clear h2
  refine rdS.intro hy ?_
  conv => whnf
  obtain ⟨b5, hy, h2⟩ := obind.elim h; clear h; have h := h2; clear h2
  refine rdS.intro hy ?_
  conv => whnf
  replace h := oreq.elim h; have hb := h.1; replace h := h.2
  first | (refine req.intro hb ?_; conv => whnf) | skip
  all_goals (cases h)
  all_goals exact rfl
theorem ok29 (R02_Get : (List UInt8) → Int → Int → Option (Int × Bool)) (R02_Must : (List UInt8) → Int → Int → Option Int) (R03_Sum : (List UInt8) → Option Int) (hS : SumsOK Try.prog (aget (sums29 R02_Get R02_Must R03_Sum))) : SumOK Try.prog 29 (s29 (R10_GetF R02_Get R02_Must R03_Sum)) := by
  refine SumOK.of_leads tab_ok (fun ar r ha hr => ?_) ⟨Try.f29, rfl, by decide, rfl⟩
  simp only [s29] at ha hr
  unfold r29 at hr
  split at hr <;> try (cases hr; done)
  split at hr <;> cases hr
  rename_i x h
  refine ⟨_, rfl, (leads29 R02_Get R02_Must R03_Sum hS _ x h).mono fun v H t hp => ?_⟩
  cases hp
  exact Res.val rfl trivial
def R10_Get : (List UInt8) → Option (api_Cover × (List UInt8) × Int) := R10_GetF R02_Get R02_Must R03_Sum
theorem lift29 : SumOK Try.prog 29 (s29 R10_Get) := ok29 R02_Get R02_Must R03_Sum (SumsOK.of_tab ⟨lift60, lift79, lift89, trivial⟩)
end Go.Vm.Code

/- Chapter 10 in plain words. -/
namespace Go.Vm.Code
open Go Go.Vm

def C10 (c : api_Cover) : Prop := (0 ≤ c.Backend ∧ c.Backend ≤ 65535) ∧ 0 ≤ c.Instance ∧ c.Instance ≤ 255
instance (c : api_Cover) : Decidable (C10 c) := inferInstanceAs (Decidable (_ ∧ _))
def kd (b : Bool) : Nat := cond b 41 4
def bt (b : Bool) : Nat := cond b 1 0
/-- a cover's bytes, without their check -/
def hd0 (c : api_Cover) : List UInt8 := [71, 85, 1] ++ be (kd c.V6) 1 ++ be c.Backend.toNat 2 ++ be (bt c.First) 1 ++ be c.Instance.toNat 1 ++ be 0 2 ++ be c.Cookie.toNat 8
theorem hd0_len (c : api_Cover) : (hd0 c).length = 18 := by simp [hd0]
def hd (c : api_Cover) : List UInt8 := sset (hd0 c) 8 2 (65535 - norm (wsum (hd0 c)))
theorem hd_len (c : api_Cover) : (hd c).length = 18 := by unfold hd; rw [sset_len (by rw [hd0_len]; omega), hd0_len]
def put10 (c : api_Cover) (l : List UInt8) : List UInt8 × Int := if ¬ C10 c then ([], 1) else if l.length > 9000 then ([], 5) else (hd c ++ l, 0)
theorem of_set (c : api_Cover) : check_Set (hd0 c) 8 2 (wI .u64 (65535 - ((norm (wsum (hd0 c)) : Nat) : Int))) = some (hd c) := by
  have := norm_le (wsum (hd0 c))
  rw [wU64 (by omega) (by omega)]
  have h := Set_sset (s := hd0 c) (p := 8) (k := 2) (n := 65535 - ((norm (wsum (hd0 c)) : Nat) : Int)) (by rw [hd0_len]; omega) (by omega) (by omega) (by omega) (by rw [hd0_len]; omega)
  have e : (65535 - ((norm (wsum (hd0 c)) : Nat) : Int)).toNat = 65535 - norm (wsum (hd0 c)) := by omega
  rw [e] at h
  exact h
theorem of_rset (c : api_Cover) : R03_Set (hd0 c) 8 2 (wI .u64 (65535 - ((norm (wsum (hd0 c)) : Nat) : Int))) = some (hd c) := by
  have := norm_le (wsum (hd0 c))
  rw [← of_set c, wU64 (by omega) (by omega), Set_eq (by rw [hd0_len]; omega) (by omega), R03_Set_eq (by rw [hd0_len]; omega) (by omega) (by omega)]
theorem gput_eq {c : api_Cover} {l : List UInt8} (hc : 0 ≤ c.Cookie ∧ c.Cookie < 2 ^ 64) : gue_Put c l = some (put10 c l) := by
  unfold gue_Put gue_PutF put10
  by_cases h : C10 c
  · rw [if_neg (by simpa using h)]
    obtain ⟨⟨a1, a2⟩, a3, a4⟩ := h
    rw [cond_n (by omega), cond_n (by omega), cond_n (by omega), cond_n (by omega)]
    by_cases h5 : (l.length : Int) > 9000
    · rw [cond_p h5, if_pos (by omega)]
    rw [cond_n h5, if_neg (by omega)]
    have ek : gue_kind c.V6 = some ((kd c.V6 : Nat) : Int) := by cases c.V6 <;> rfl
    have eb : gue_bit c.First = some ((bt c.First : Nat) : Int) := by cases c.First <;> rfl
    have k1 : kd c.V6 < 256 := by cases c.V6 <;> decide
    have k2 : bt c.First < 256 := by cases c.First <;> decide
    rw [ek, eb]
    simp only [Option.bind_some]
    rw [wU64 (n := ((kd c.V6 : Nat) : Int)) (by omega) (by omega), wU64 (n := ((bt c.First : Nat) : Int)) (by omega) (by omega), wU64 (n := c.Backend) (by omega) (by omega), wU64 (n := c.Instance) (by omega) (by omega)]
    simp (disch := omega) only [octet_Put_eq, Option.bind_some, putS]
    simp only [show (1 : Int) ≤ 1 ∧ (1 : Int) ≤ 8 from by omega, show (1 : Int) ≤ 2 ∧ (2 : Int) ≤ 8 from by omega, show (1 : Int) ≤ 8 ∧ (8 : Int) ≤ 8 from by omega, and_self, if_true, Int.toNat_natCast, show (1 : Int).toNat = 1 from rfl, show (2 : Int).toNat = 2 from rfl, show (8 : Int).toNat = 8 from rfl, show (0 : Int).toNat = 0 from rfl]
    have eh : [71, 85, 1] ++ be (kd c.V6) 1 ++ be c.Backend.toNat 2 ++ be (bt c.First) 1 ++ be c.Instance.toNat 1 ++ be 0 2 ++ be c.Cookie.toNat 8 = hd0 c := rfl
    rw [eh, oreq_p (by simp), oreq_p (by simp), oreq_p (by simp), oreq_p (by simp), oreq_p (by simp), oreq_p (by simp), Of_eq (by rw [hd0_len]; omega), Option.bind_some, of_set, Option.bind_some, oreq_p (by rw [hd_len]; omega)]
  · rw [if_pos h]
    unfold C10 at h
    by_cases b1 : c.Backend < 0
    · rw [cond_p b1]
    rw [cond_n b1]
    by_cases b2 : c.Backend > 65535
    · rw [cond_p b2]
    rw [cond_n b2]
    by_cases b3 : c.Instance < 0
    · rw [cond_p b3]
    rw [cond_n b3, cond_p (by omega)]
theorem rput10_eq {c : api_Cover} {l : List UInt8} (hc : 0 ≤ c.Cookie ∧ c.Cookie < 2 ^ 64) : R10_Put c l = some (put10 c l) := by
  unfold R10_Put R10_PutF put10
  by_cases h : C10 c
  · rw [if_neg (by simpa using h)]
    obtain ⟨⟨a1, a2⟩, a3, a4⟩ := h
    rw [cond_n (by omega), cond_n (by omega), cond_n (by omega), cond_n (by omega)]
    by_cases h5 : (l.length : Int) > 9000
    · rw [cond_p h5, if_pos (by omega)]
    rw [cond_n h5, if_neg (by omega)]
    have eh : [71, 85, 1] ++ be (kd c.V6) 1 ++ be c.Backend.toNat 2 ++ be (bt c.First) 1 ++ be c.Instance.toNat 1 ++ [0, 0] ++ be c.Cookie.toNat 8 = hd0 c := rfl
    rw [wU64 (n := c.Backend) (by omega) (by omega), wU64 (n := c.Instance) (by omega) (by omega)]
    simp (disch := omega) only [R02_Put_eq, Option.bind_some, putS]
    simp only [show (1 : Int) ≤ 1 ∧ (1 : Int) ≤ 8 from by omega, show (1 : Int) ≤ 2 ∧ (2 : Int) ≤ 8 from by omega, show (1 : Int) ≤ 8 ∧ (8 : Int) ≤ 8 from by omega, and_self, if_true, show (1 : Int).toNat = 1 from rfl, show (2 : Int).toNat = 2 from rfl, show (8 : Int).toNat = 8 from rfl, show (0 : Int).toNat = 0 from rfl, show (41 : Int).toNat = 41 from rfl, show (4 : Int).toNat = 4 from rfl]
    cases hv : c.V6 <;> cases hf : c.First <;> rw [hv, hf] at eh <;> simp only [kd, bt, cond_true, cond_false] at eh ⊢ <;> rw [eh, oreq_p (by simp), oreq_p (by simp), oreq_p (by simp), oreq_p (by simp), oreq_p (by simp), oreq_p (by simp), R03_Of_eq (by rw [hd0_len]; omega), Option.bind_some, of_rset, Option.bind_some, oreq_p (by rw [hd_len]; omega)]
  · rw [if_pos h]
    unfold C10 at h
    by_cases b1 : c.Backend < 0
    · rw [cond_p b1]
    rw [cond_n b1]
    by_cases b2 : c.Backend > 65535
    · rw [cond_p b2]
    rw [cond_n b2]
    by_cases b3 : c.Instance < 0
    · rw [cond_p b3]
    rw [cond_n b3, cond_p (by omega)]
def zero10 : api_Cover := ⟨false, 0, 0, false, 0⟩
/-- one byte's number -/
def b1 (s : List UInt8) (i : Nat) : Nat := valL ((s.drop i).take 1)
theorem b1_get {s : List UInt8} {i : Nat} (h : i < s.length) : b1 s i = s[i].toNat := by
  unfold b1
  rw [List.drop_eq_getElem_cons h]
  show valL [s[i]] = _
  rw [val_cons]; simp
theorem b1_lt (s : List UInt8) (i : Nat) : b1 s i < 256 := val_take_lt _ (by decide)
def get10 (s : List UInt8) : api_Cover × List UInt8 × Int :=
  if s.length < 18 then (zero10, [], 2) else if s.take 3 ≠ [71, 85, 1] then (zero10, [], 3) else if b1 s 3 ≠ 4 ∧ b1 s 3 ≠ 41 then (zero10, [], 3) else if 1 < b1 s 6 then (zero10, [], 3) else
    if 9018 < s.length then (zero10, [], 5) else if norm (wsum (s.take 18)) ≠ 65535 then (zero10, [], 4) else
      (⟨decide (b1 s 3 = 41), (valL ((s.drop 4).take 2) : Nat), (valL ((s.drop 10).take 8) : Nat), decide (b1 s 6 = 1), (b1 s 7 : Nat)⟩, s.drop 18, 0)
theorem rget10_eq {s : List UInt8} (h : s.length < 2 ^ 38) : R10_Get s = some (get10 s) := by
  unfold R10_Get R10_GetF get10
  by_cases h1 : s.length < 18
  · rw [cond_p (by omega), if_pos h1]; rfl
  rw [cond_n (by omega), if_neg h1, oreq_p (by omega)]
  by_cases h2 : s.take 3 ≠ [71, 85, 1]
  · have : (!(s.take 3 == [71, 85, 1])) = true := by rw [Bool.not_eq_true', beq_eq_false_iff_ne]; exact h2
    rw [this, cond_true, if_pos h2]; rfl
  have e2 : (!(s.take 3 == [71, 85, 1])) = false := by rw [Bool.not_eq_false', beq_iff_eq]; exact Classical.not_not.1 h2
  rw [e2, cond_false, if_neg h2]
  have g3 := b1_get (s := s) (i := 3) (by omega)
  have g6 := b1_get (s := s) (i := 6) (by omega)
  have g7 := b1_get (s := s) (i := 7) (by omega)
  have l7 := b1_lt s 7
  have v2 : valL ((s.drop 4).take 2) < 2 ^ 16 := val_take_lt _ (by decide)
  have nl := norm_le (wsum (s.take 18))
  have tl : (s.take 18).length = 18 := by simp; omega
  have et : (s.drop 18).take (s.length - 18) = s.drop 18 := List.take_of_length_le (by simp)
  simp only [List.getElem?_eq_getElem (by omega : 3 < s.length), List.getElem?_eq_getElem (by omega : 6 < s.length), List.getElem?_eq_getElem (by omega : 7 < s.length), Option.bind_some, ← g3, ← g6, ← g7]
  have tailE : (cond (decide (((b1 s 6 : Nat) : Int) > 1)) (some (api_Cover.mk false 0 0 false 0, ([] : List UInt8), (3 : Int)))
      (cond (decide ((s.length : Int) > 9018)) (some (api_Cover.mk false 0 0 false 0, [], 5))
        (oreq (decide ((0 : Int) ≤ (18 : Int) ∧ (18 : Int) ≤ (s.length : Int))) <|
          (R03_Sum (s.take 18)).bind fun s2 =>
            cond (s2 != 65535) (some (api_Cover.mk false 0 0 false 0, [], 4))
              ((R02_Get s 10 8).bind fun xg1 =>
                (R02_Must s 4 2).bind fun m1 =>
                  oreq (decide ((0 : Int) ≤ (18 : Int) ∧ (18 : Int) ≤ (s.length : Int))) <|
                    some (api_Cover.mk (((b1 s 3 : Nat) : Int) == 41) m1 xg1.1 (((b1 s 6 : Nat) : Int) == 1) (wI .i64 ((b1 s 7 : Nat) : Int)), (s.drop 18).take (s.length - 18), 0))))) =
      some (if 1 < b1 s 6 then (zero10, [], 3) else if 9018 < s.length then (zero10, [], 5) else if norm (wsum (s.take 18)) ≠ 65535 then (zero10, [], 4) else
        (⟨decide (b1 s 3 = 41), (valL ((s.drop 4).take 2) : Nat), (valL ((s.drop 10).take 8) : Nat), decide (b1 s 6 = 1), (b1 s 7 : Nat)⟩, s.drop 18, 0)) := by
    by_cases h6 : 1 < b1 s 6
    · rw [cond_p (by omega), if_pos h6]; rfl
    rw [cond_n (by omega), if_neg h6]
    by_cases h9 : 9018 < s.length
    · rw [cond_p (by omega), if_pos h9]; rfl
    rw [cond_n (by omega), if_neg h9, oreq_p (by omega), R03_Sum_eq (by omega), Option.bind_some]
    by_cases hn : norm (wsum (s.take 18)) ≠ 65535
    · have : (((norm (wsum (s.take 18)) : Nat) : Int) != 65535) = true := by rw [bne_iff_ne]; omega
      rw [this, cond_true, if_pos hn]; rfl
    · have : (((norm (wsum (s.take 18)) : Nat) : Int) != 65535) = false := by rw [bne_eq_false_iff_eq]; omega
      rw [this, cond_false, if_neg hn, R02_Get_eq (by omega), Option.bind_some, R02_Must_eq (by omega), Option.bind_some, oreq_p (by omega), et]
      rw [getS_at (p := 10) (k := 8) (by omega) (by omega) (by omega) (by omega), getS_at (p := 4) (k := 2) (by omega) (by omega) (by omega) (by omega)]
      simp only [show (10 : Int).toNat = 10 from rfl, show (8 : Int).toNat = 8 from rfl, show (4 : Int).toNat = 4 from rfl, show (2 : Int).toNat = 2 from rfl]
      rw [wI64 (n := ((valL ((s.drop 4).take 2) : Nat) : Int)) (by omega) (by omega), wI64 (n := ((b1 s 7 : Nat) : Int)) (by omega) (by omega)]
      have x1 : (((b1 s 3 : Nat) : Int) == 41) = decide (b1 s 3 = 41) := by rw [Bool.eq_iff_iff, beq_iff_eq, decide_eq_true_eq]; omega
      have x2 : (((b1 s 6 : Nat) : Int) == 1) = decide (b1 s 6 = 1) := by rw [Bool.eq_iff_iff, beq_iff_eq, decide_eq_true_eq]; omega
      rw [x1, x2]
  by_cases h4 : b1 s 3 = 4
  · have : (((b1 s 3 : Nat) : Int) != 4) = false := by rw [bne_eq_false_iff_eq]; omega
    rw [this, cond_false, if_neg (by omega)]
    exact tailE
  · have : (((b1 s 3 : Nat) : Int) != 4) = true := by rw [bne_iff_ne]; omega
    rw [this, cond_true]
    by_cases h41 : b1 s 3 = 41
    · have : (((b1 s 3 : Nat) : Int) != 41) = false := by rw [bne_eq_false_iff_eq]; omega
      rw [this, cond_false, if_neg (by omega)]
      exact tailE
    · have : (((b1 s 3 : Nat) : Int) != 41) = true := by rw [bne_iff_ne]; omega
      rw [this, cond_true, if_pos (by omega)]; rfl
theorem cut_eq {s : List UInt8} (h : 18 ≤ s.length) : strings_CutPrefix s [71, 85, 1] = some (if s.take 3 = [71, 85, 1] then (s.drop 3, true) else (s, false)) := by
  unfold strings_CutPrefix strings_CutPrefixF internal_stringslite_CutPrefix internal_stringslite_CutPrefixF internal_stringslite_HasPrefix internal_stringslite_HasPrefixF
  simp only [List.length_cons, List.length_nil]
  rw [cond_p (by omega), oreq_p (by omega), Option.bind_some]
  by_cases h3 : s.take 3 = [71, 85, 1]
  · have e : ((s.take 3) == [71, 85, 1]) = true := by rw [beq_iff_eq]; exact h3
    have et : (s.drop 3).take (s.length - 3) = s.drop 3 := List.take_of_length_le (by simp)
    show ((cond (!((s.take 3) == [71, 85, 1])) _ _ : Option (List UInt8 × Bool)).bind _) = _
    rw [e, Bool.not_true, cond_false, if_pos h3, oreq_p (by omega)]
    simp only [Nat.zero_add, Nat.reduceAdd, et, Option.bind_some]
  · have e : ((s.take 3) == [71, 85, 1]) = false := by rw [beq_eq_false_iff_ne]; exact h3
    show ((cond (!((s.take 3) == [71, 85, 1])) _ _ : Option (List UInt8 × Bool)).bind _) = _
    rw [e, Bool.not_false, cond_true, if_neg h3]; rfl
theorem rdr_len_le (r : octet_Reader) (k : Int) : (rdr r k).s.length ≤ r.s.length := by unfold rdr; split <;> simp
theorem gget_eq {s : List UInt8} (h : s.length < 2 ^ 38) : gue_Get s = some (get10 s) := by
  unfold gue_Get gue_GetF get10
  by_cases h1 : s.length < 18
  · rw [cond_p (by omega), if_pos h1]; rfl
  rw [cond_n (by omega), if_neg h1, cut_eq (by omega), Option.bind_some]
  have i1 : (if (1 : Int) < 1 ∨ (1 : Int) > 7 then -1 else 1 : Int) = 1 := by decide
  have i2 : (if (2 : Int) < 1 ∨ (2 : Int) > 7 then -1 else 2 : Int) = 2 := by decide
  have i4 : (if (4 : Int) < 1 ∨ (4 : Int) > 7 then -1 else 4 : Int) = 4 := by decide
  by_cases h2 : s.take 3 = [71, 85, 1]
  · rw [if_pos h2, if_neg (by simpa using h2)]
    simp only [rNew_eq, Option.bind_some]
    have ld : (s.drop 3).length = s.length - 3 := by simp
    rw [rNum_eq rfl (by simp only []; omega), Option.bind_some]
    simp only [rdn, i1]
    rw [rdr_ok (by omega) (by omega), rdt_ok (by omega) (by omega), show (1 : Int).toNat = 1 from rfl, List.drop_drop]
    rw [rNum_eq rfl (by simp; omega), Option.bind_some]
    simp only [rdn, i2]
    rw [rdr_ok (by omega) (by simp; omega), rdt_ok (by omega) (by simp; omega), show (2 : Int).toNat = 2 from rfl, List.drop_drop]
    rw [rNum_eq rfl (by simp; omega), Option.bind_some]
    simp only [rdn, i1]
    rw [rdr_ok (by omega) (by simp; omega), rdt_ok (by omega) (by simp; omega), show (1 : Int).toNat = 1 from rfl, List.drop_drop]
    rw [rNum_eq rfl (by simp; omega), Option.bind_some]
    simp only [rdn, i1]
    rw [rdr_ok (by omega) (by simp; omega), rdt_ok (by omega) (by simp; omega), show (1 : Int).toNat = 1 from rfl, List.drop_drop]
    rw [rNum_eq rfl (by simp; omega), Option.bind_some]
    simp only [rdn, i2]
    rw [rdr_ok (by omega) (by simp; omega), show (2 : Int).toNat = 2 from rfl, List.drop_drop]
    rw [rNum_eq rfl (by simp; omega), Option.bind_some]
    simp only [rdn, i4]
    rw [rdr_ok (by omega) (by simp; omega), rdt_ok (by omega) (by simp; omega), show (4 : Int).toNat = 4 from rfl, List.drop_drop]
    rw [rNum_eq rfl (by simp; omega), Option.bind_some]
    simp only [rdn, i4]
    rw [rdt_ok (by omega) (by simp; omega), show (4 : Int).toNat = 4 from rfl]
    simp only [Bool.not_true, cond_false, Nat.reduceAdd]
    have q3 : valL ((s.drop 3).take 1) = b1 s 3 := rfl
    have q6 : valL ((s.drop 6).take 1) = b1 s 6 := rfl
    have q7 : valL ((s.drop 7).take 1) = b1 s 7 := rfl
    rw [q3, q6, q7]
    have l3 := b1_lt s 3
    have va : valL ((s.drop 10).take 4) < 2 ^ 32 := val_take_lt _ (by decide)
    have vb : valL ((s.drop 14).take 4) < 2 ^ 32 := val_take_lt _ (by decide)
    have e8 : valL ((s.drop 10).take 8) = valL ((s.drop 10).take 4) * 2 ^ 32 + valL ((s.drop 14).take 4) := by
      have : (s.drop 10).take 8 = (s.drop 10).take 4 ++ (s.drop 14).take 4 := by
        rw [show s.drop 14 = (s.drop 10).drop 4 by rw [List.drop_drop], ← List.take_add]
      rw [this, val_append, show ((s.drop 14).take 4).length = 4 by simp; omega]
    have ec : iorI .u64 (wI .u64 ((wI .u64 ((valL ((s.drop 10).take 4) : Nat) : Int)) * 2 ^ 32)) (wI .u64 ((valL ((s.drop 14).take 4) : Nat) : Int)) = ((valL ((s.drop 10).take 8) : Nat) : Int) := by
      rw [e8, wU64 (n := ((valL ((s.drop 10).take 4) : Nat) : Int)) (by omega) (by omega), wU64 (n := ((valL ((s.drop 14).take 4) : Nat) : Int)) (by omega) (by omega), wU64 (n := ((valL ((s.drop 10).take 4) : Nat) : Int) * 2 ^ 32) (by omega) (by omega), iorU64_low 32 (by omega) (by omega) (by omega) (by omega) (by omega)]; omega
    rw [ec]
    have x1 : (((b1 s 3 : Nat) : Int) == 41) = decide (b1 s 3 = 41) := by rw [Bool.eq_iff_iff, beq_iff_eq, decide_eq_true_eq]; omega
    have x2 : (((b1 s 6 : Nat) : Int) == 1) = decide (b1 s 6 = 1) := by rw [Bool.eq_iff_iff, beq_iff_eq, decide_eq_true_eq]; omega
    rw [x1, x2]
    have ek : ∀ b : Bool, gue_kind b = some ((kd b : Nat) : Int) := by intro b; cases b <;> rfl
    rw [ek, Option.bind_some]
    have xk : (((b1 s 3 : Nat) : Int) != ((kd (decide (b1 s 3 = 41)) : Nat) : Int)) = decide (b1 s 3 ≠ 4 ∧ b1 s 3 ≠ 41) := by
      rw [Bool.eq_iff_iff, bne_iff_ne, decide_eq_true_eq]
      by_cases h41 : b1 s 3 = 41
      · rw [decide_eq_true h41]; simp only [kd, cond_true]; omega
      · rw [decide_eq_false h41]; simp only [kd, cond_false]; omega
    rw [xk]
    by_cases h4 : b1 s 3 ≠ 4 ∧ b1 s 3 ≠ 41
    · rw [cond_p h4, if_pos h4]; rfl
    rw [cond_n h4, if_neg h4]
    by_cases h6 : 1 < b1 s 6
    · rw [cond_p (by omega), if_pos h6]; rfl
    rw [cond_n (by omega), if_neg h6]
    by_cases h9 : 9018 < s.length
    · rw [cond_p (by omega), if_pos h9]; rfl
    have et : (s.drop 18).take (s.length - 18) = s.drop 18 := List.take_of_length_le (by simp)
    rw [cond_n (by omega), if_neg h9, oreq_p (by omega), Right_eq (by simp; omega), Option.bind_some]
    have nl := norm_le (wsum (s.take 18))
    by_cases hn : norm (wsum (s.take 18)) ≠ 65535
    · have : (((norm (wsum (s.take 18)) : Nat) : Int) == 65535) = false := by rw [beq_eq_false_iff_ne]; omega
      rw [this, Bool.not_false, cond_true, if_pos hn]; rfl
    · have : (((norm (wsum (s.take 18)) : Nat) : Int) == 65535) = true := by rw [beq_iff_eq]; omega
      rw [this, Bool.not_true, cond_false, if_neg hn, oreq_p (by omega), et]
  · rw [if_neg h2, if_pos h2]
    simp only [rNew_eq, Option.bind_some]
    rw [rNum_eq rfl (by simp only []; omega), Option.bind_some]
    simp only []
    have l1 := rdr_len_le ⟨s, true, false⟩ (if (1 : Int) < 1 ∨ (1 : Int) > 7 then -1 else 1)
    have m1 := rdr_made ⟨s, true, false⟩ (if (1 : Int) < 1 ∨ (1 : Int) > 7 then -1 else 1)
    generalize rdr ⟨s, true, false⟩ (if (1 : Int) < 1 ∨ (1 : Int) > 7 then -1 else 1) = r1 at *
    simp only at l1
    rw [rNum_eq m1 (by omega), Option.bind_some]
    simp only []
    have l2 := rdr_len_le r1 (if (2 : Int) < 1 ∨ (2 : Int) > 7 then -1 else 2)
    have m2 := rdr_made r1 (if (2 : Int) < 1 ∨ (2 : Int) > 7 then -1 else 2)
    generalize rdr r1 (if (2 : Int) < 1 ∨ (2 : Int) > 7 then -1 else 2) = r2 at *
    rw [rNum_eq m2 (by omega), Option.bind_some]
    simp only []
    have l3 := rdr_len_le r2 (if (1 : Int) < 1 ∨ (1 : Int) > 7 then -1 else 1)
    have m3 := rdr_made r2 (if (1 : Int) < 1 ∨ (1 : Int) > 7 then -1 else 1)
    generalize rdr r2 (if (1 : Int) < 1 ∨ (1 : Int) > 7 then -1 else 1) = r3 at *
    rw [rNum_eq m3 (by omega), Option.bind_some]
    simp only []
    have l4 := rdr_len_le r3 (if (1 : Int) < 1 ∨ (1 : Int) > 7 then -1 else 1)
    have m4 := rdr_made r3 (if (1 : Int) < 1 ∨ (1 : Int) > 7 then -1 else 1)
    generalize rdr r3 (if (1 : Int) < 1 ∨ (1 : Int) > 7 then -1 else 1) = r4 at *
    rw [rNum_eq m4 (by omega), Option.bind_some]
    simp only []
    have l5 := rdr_len_le r4 (if (2 : Int) < 1 ∨ (2 : Int) > 7 then -1 else 2)
    have m5 := rdr_made r4 (if (2 : Int) < 1 ∨ (2 : Int) > 7 then -1 else 2)
    generalize rdr r4 (if (2 : Int) < 1 ∨ (2 : Int) > 7 then -1 else 2) = r5 at *
    rw [rNum_eq m5 (by omega), Option.bind_some]
    simp only []
    have l6 := rdr_len_le r5 (if (4 : Int) < 1 ∨ (4 : Int) > 7 then -1 else 4)
    have m6 := rdr_made r5 (if (4 : Int) < 1 ∨ (4 : Int) > 7 then -1 else 4)
    generalize rdr r5 (if (4 : Int) < 1 ∨ (4 : Int) > 7 then -1 else 4) = r6 at *
    rw [rNum_eq m6 (by omega), Option.bind_some]
    rfl
end Go.Vm.Code

namespace Go.Vm.Code
open Go Go.Vm Go.Proofs
set_option maxRecDepth 100000
set_option maxHeartbeats 4000000
set_option linter.unusedVariables false

/-! cloakroom/cloakroomlaw10.awake -/
def law10_awakeF (gue_Get : (List UInt8) → Option (api_Cover × (List UInt8) × Int)) (gue_Put : api_Cover → (List UInt8) → Option ((List UInt8) × Int)) : Option Bool :=
  (gue_Put (api_Cover.mk false 0 0 false 0) []).bind fun p =>
  (gue_Get p.1).bind fun xg =>
  (gue_Get []).bind fun xg1 =>
  cond (p.2 == 0)
    (
    cond ((p.1.length : Int) == 18)
      (
      oreq (decide ((0 : Int) ≤ (2 : Int) ∧ (2 : Int) ≤ (p.1.length : Int))) <|
      cond ((p.1.take 2) == [71, 85])
        (
        cond (xg.2.2 == 0)
          (
          cond (xg1.2.2 == 2)
            (
            some (true))
            (
            some (false)))
          (
          some (false)))
        (
        some (false)))
      (
      some (false)))
    (
    some (false))
def post25 (x : Bool) (v : Value) (H : Hp) : Prop := v = .bool x
def r25 (g : Option Bool) : List SArg → Option SRes
  | [] => match g  with | some x => some ⟨.bool x, [], []⟩ | none => none
  | _ => none
def s25 (g : Option Bool) : Summ := ⟨[], r25 g⟩
theorem r25_eq {g : Option Bool} {x : Bool} (hx : g  = some x) : (s25 g).run [] = some ⟨.bool x, [], []⟩ := by
  show r25 g [] = _
  simp only [r25, hx]
abbrev sums25 (gue_Get : (List UInt8) → Option (api_Cover × (List UInt8) × Int)) (gue_Put : api_Cover → (List UInt8) → Option ((List UInt8) × Int)) : List (Nat × Summ) := [(28, s28 gue_Get), (26, s26 gue_Put)]
theorem leads25 (gue_Get : (List UInt8) → Option (api_Cover × (List UInt8) × Int)) (gue_Put : api_Cover → (List UInt8) → Option ((List UInt8) × Int)) (hS : SumsOK Try.prog (aget (sums25 gue_Get gue_Put))) (res : Bool) (h : law10_awakeF gue_Get gue_Put = some res) :
    Leads Try.prog 25 0 ⟨⟨25, 47, [], [.code k25_9], [], false, none⟩, [], [], 0⟩ (fun v H _ => post25 res v H) := by
  unfold law10_awakeF at h
  refine ev_ok tab_ok hS true 3000 ?_
  conv => whnf
  obtain ⟨p, hy, h2⟩ := obind.elim h; clear h; have h := h2; clear h2
  refine sumK.introF [] (sumRun_of (aqs := [.v (.agg ⟨[.bool false, .int .i64 0, .int .u64 0, .bool false, .int .i64 0]⟩), .v (.string ⟨⟨[]⟩⟩)]) (ra_cons rfl (ra_cons rfl ra_nil)) (r26_eq hy) rfl rfl rfl rfl) ?_
  conv => whnf
  obtain ⟨xg, hy, h2⟩ := obind.elim h; clear h; have h := h2; clear h2
  refine sumK.introF [] (sumRun_of (aqs := [.v (.string ⟨⟨p.1⟩⟩)]) (ra_cons rfl ra_nil) (r28_eq hy) rfl rfl rfl rfl) ?_
  conv => whnf
  obtain ⟨xg1, hy, h2⟩ := obind.elim h; clear h; have h := h2; clear h2
  refine sumK.introF [] (sumRun_of (aqs := [.v (.string ⟨⟨[]⟩⟩)]) (ra_cons rfl ra_nil) (r28_eq hy) rfl rfl rfl rfl) ?_
  conv => whnf
  refine br.h2 h ?_ ?_ ?_
  · rfl
  · clear h; intro hb h; conv => whnf
    all_goals (cases h)
    all_goals exact rfl
  clear h; intro hb h; conv => whnf
  refine br.h2 h ?_ ?_ ?_
  · rfl
  · clear h; intro hb h; conv => whnf
    all_goals (cases h)
    all_goals exact rfl
  clear h; intro hb h; conv => whnf
  replace h := oreq.elim h; have hb := h.1; replace h := h.2
  first | (refine req.intro hb ?_; conv => whnf) | skip
  refine br.h2 h ?_ ?_ ?_
  · rfl
  · clear h; intro hb h; conv => whnf
    all_goals (cases h)
    all_goals exact rfl
  clear h; intro hb h; conv => whnf
  refine br.h2 h ?_ ?_ ?_
  · rfl
  · clear h; intro hb h; conv => whnf
    all_goals (cases h)
    all_goals exact rfl
  clear h; intro hb h; conv => whnf
  refine br.h h ?_ ?_ ?_
  · rfl
  · clear h; intro hb h; conv => whnf
    all_goals (cases h)
    all_goals exact rfl
  clear h; intro hb h; conv => whnf
  all_goals (cases h)
  all_goals exact rfl
theorem ok25 (gue_Get : (List UInt8) → Option (api_Cover × (List UInt8) × Int)) (gue_Put : api_Cover → (List UInt8) → Option ((List UInt8) × Int)) (hS : SumsOK Try.prog (aget (sums25 gue_Get gue_Put))) : SumOK Try.prog 25 (s25 (law10_awakeF gue_Get gue_Put)) := by
  refine SumOK.of_leads tab_ok (fun ar r ha hr => ?_) ⟨Try.f25, rfl, by decide, rfl⟩
  simp only [s25] at ha hr
  unfold r25 at hr
  split at hr <;> try (cases hr; done)
  split at hr <;> cases hr
  rename_i x h
  refine ⟨_, rfl, (leads25 gue_Get gue_Put hS x h).mono fun v H t hp => ?_⟩
  cases hp
  exact Res.val rfl trivial
def law10_awake : Option Bool := law10_awakeF gue_Get gue_Put
theorem lift25 : SumOK Try.prog 25 (s25 law10_awake) := ok25 gue_Get gue_Put (SumsOK.of_tab ⟨lift28, lift26, trivial⟩)
end Go.Vm.Code

namespace Go.Vm.Code
open Go Go.Vm Go.Proofs
set_option maxRecDepth 100000
set_option maxHeartbeats 4000000
set_option linter.unusedVariables false

/-! cloakroom/cloakroomlaw10.GueTells -/
def law10_GueTellsF (R10_Get : (List UInt8) → Option (api_Cover × (List UInt8) × Int)) (R10_Put : api_Cover → (List UInt8) → Option ((List UInt8) × Int)) (gue_Get : (List UInt8) → Option (api_Cover × (List UInt8) × Int)) (gue_Put : api_Cover → (List UInt8) → Option ((List UInt8) × Int)) (law10_awake : Option Bool) (c : api_Cover) (inner : List UInt8) (s : List UInt8) : Option Bool :=
  cond (decide ((inner.length : Int) > 200))
    (
    (law10_awake).bind fun a =>
    some (a))
    (
    cond (decide ((s.length : Int) > 200))
      (
      (law10_awake).bind fun a1 =>
      some (a1))
      (
      (gue_Put c inner).bind fun p =>
      (R10_Put c inner).bind fun p1 =>
      (gue_Get s).bind fun xg =>
      (R10_Get s).bind fun xg1 =>
      cond (p.1 == p1.1)
        (
        cond (p.2 == p1.2)
          (
          let t := (xg.1.V6 == xg1.1.V6) && ((xg.1.Backend == xg1.1.Backend) && ((xg.1.Cookie == xg1.1.Cookie) && ((xg.1.First == xg1.1.First) && ((xg.1.Instance == xg1.1.Instance) && true))))
          cond (t)
            (
            cond (xg.2.1 == xg1.2.1)
              (
              cond (xg.2.2 == xg1.2.2)
                (
                (law10_awake).bind fun a2 =>
                some (a2))
                (
                some (false)))
              (
              some (false)))
            (
            some (false)))
          (
          some (false)))
        (
        some (false))))
def post5 (x : Bool) (v : Value) (H : Hp) : Prop := v = .bool x
def r5 (g : api_Cover → (List UInt8) → (List UInt8) → Option Bool) : List SArg → Option SRes
  | [.v (.agg ⟨[.bool a0_1, .int .i64 a0_2, .int .u64 a0_3, .bool a0_4, .int .i64 a0_5]⟩), .v (.string ⟨⟨a1_1⟩⟩), .v (.string ⟨⟨a2_1⟩⟩)] => match g (api_Cover.mk a0_1 a0_2 a0_3 a0_4 a0_5) a1_1 a2_1 with | some x => some ⟨.bool x, [], []⟩ | none => none
  | _ => none
def s5 (g : api_Cover → (List UInt8) → (List UInt8) → Option Bool) : Summ := ⟨[.v, .v, .v], r5 g⟩
theorem r5_eq {g : api_Cover → (List UInt8) → (List UInt8) → Option Bool} {a0_1 : Bool} {a0_2 : Int} {a0_3 : Int} {a0_4 : Bool} {a0_5 : Int} {a1_1 : List UInt8} {a2_1 : List UInt8} {x : Bool} (hx : g (api_Cover.mk a0_1 a0_2 a0_3 a0_4 a0_5) a1_1 a2_1 = some x) : (s5 g).run [.v (.agg ⟨[.bool a0_1, .int .i64 a0_2, .int .u64 a0_3, .bool a0_4, .int .i64 a0_5]⟩), .v (.string ⟨⟨a1_1⟩⟩), .v (.string ⟨⟨a2_1⟩⟩)] = some ⟨.bool x, [], []⟩ := by
  show r5 g [.v (.agg ⟨[.bool a0_1, .int .i64 a0_2, .int .u64 a0_3, .bool a0_4, .int .i64 a0_5]⟩), .v (.string ⟨⟨a1_1⟩⟩), .v (.string ⟨⟨a2_1⟩⟩)] = _
  simp only [r5, hx]
abbrev sums5 (R10_Get : (List UInt8) → Option (api_Cover × (List UInt8) × Int)) (R10_Put : api_Cover → (List UInt8) → Option ((List UInt8) × Int)) (gue_Get : (List UInt8) → Option (api_Cover × (List UInt8) × Int)) (gue_Put : api_Cover → (List UInt8) → Option ((List UInt8) × Int)) (law10_awake : Option Bool) : List (Nat × Summ) := [(29, s29 R10_Get), (27, s27 R10_Put), (28, s28 gue_Get), (26, s26 gue_Put), (25, s25 law10_awake)]
theorem leads5 (R10_Get : (List UInt8) → Option (api_Cover × (List UInt8) × Int)) (R10_Put : api_Cover → (List UInt8) → Option ((List UInt8) × Int)) (gue_Get : (List UInt8) → Option (api_Cover × (List UInt8) × Int)) (gue_Put : api_Cover → (List UInt8) → Option ((List UInt8) × Int)) (law10_awake : Option Bool) (hS : SumsOK Try.prog (aget (sums5 R10_Get R10_Put gue_Get gue_Put law10_awake))) (c : api_Cover) (inner : List UInt8) (s : List UInt8) (res : Bool) (h : law10_GueTellsF R10_Get R10_Put gue_Get gue_Put law10_awake c inner s = some res) :
    Leads Try.prog 5 0 ⟨⟨5, 76, [(0, .agg ⟨[.bool c.V6, .int .i64 c.Backend, .int .u64 c.Cookie, .bool c.First, .int .i64 c.Instance]⟩), (1, .string ⟨⟨inner⟩⟩), (2, .string ⟨⟨s⟩⟩)], [.code k5_17], [], false, none⟩, [], [], 0⟩ (fun v H _ => post5 res v H) := by
  unfold law10_GueTellsF at h
  refine ev_ok tab_ok hS true 3000 ?_
  conv => whnf
  refine br.h h ?_ ?_ ?_
  · rfl
  · clear h; intro hb h; conv => whnf
    obtain ⟨a, hy, h2⟩ := obind.elim h; clear h; have h := h2; clear h2
    refine sumK.introF [] (sumRun_of (aqs := []) ra_nil (r25_eq hy) rfl rfl rfl rfl) ?_
    conv => whnf
    all_goals (cases h)
    all_goals exact rfl
  clear h; intro hb h; conv => whnf
  refine br.h h ?_ ?_ ?_
  · rfl
  · clear h; intro hb h; conv => whnf
    obtain ⟨a1, hy, h2⟩ := obind.elim h; clear h; have h := h2; clear h2
    refine sumK.introF [] (sumRun_of (aqs := []) ra_nil (r25_eq hy) rfl rfl rfl rfl) ?_
    conv => whnf
    all_goals (cases h)
    all_goals exact rfl
  clear h; intro hb h; conv => whnf
  obtain ⟨p, hy, h2⟩ := obind.elim h; clear h; have h := h2; clear h2
  refine sumK.introF [] (sumRun_of (aqs := [.v (.agg ⟨[.bool c.V6, .int .i64 c.Backend, .int .u64 c.Cookie, .bool c.First, .int .i64 c.Instance]⟩), .v (.string ⟨⟨inner⟩⟩)]) (ra_cons rfl (ra_cons rfl ra_nil)) (r26_eq hy) rfl rfl rfl rfl) ?_
  conv => whnf
  obtain ⟨p1, hy, h2⟩ := obind.elim h; clear h; have h := h2; clear h2
  refine sumK.introF [] (sumRun_of (aqs := [.v (.agg ⟨[.bool c.V6, .int .i64 c.Backend, .int .u64 c.Cookie, .bool c.First, .int .i64 c.Instance]⟩), .v (.string ⟨⟨inner⟩⟩)]) (ra_cons rfl (ra_cons rfl ra_nil)) (r27_eq hy) rfl rfl rfl rfl) ?_
  conv => whnf
  obtain ⟨xg, hy, h2⟩ := obind.elim h; clear h; have h := h2; clear h2
  refine sumK.introF [] (sumRun_of (aqs := [.v (.string ⟨⟨s⟩⟩)]) (ra_cons rfl ra_nil) (r28_eq hy) rfl rfl rfl rfl) ?_
  conv => whnf
  obtain ⟨xg1, hy, h2⟩ := obind.elim h; clear h; have h := h2; clear h2
  refine sumK.introF [] (sumRun_of (aqs := [.v (.string ⟨⟨s⟩⟩)]) (ra_cons rfl ra_nil) (r29_eq hy) rfl rfl rfl rfl) ?_
  conv => whnf
  refine br.h2 h ?_ ?_ ?_
  · rfl
  · clear h; intro hb h; conv => whnf
    all_goals (cases h)
    all_goals exact rfl
  clear h; intro hb h; conv => whnf
  refine br.h2 h ?_ ?_ ?_
  · rfl
  · clear h; intro hb h; conv => whnf
    all_goals (cases h)
    all_goals exact rfl
  clear h; intro hb h; conv => whnf
  let t : Bool := (xg.1.V6 == xg1.1.V6) && ((xg.1.Backend == xg1.1.Backend) && ((xg.1.Cookie == xg1.1.Cookie) && ((xg.1.First == xg1.1.First) && ((xg.1.Instance == xg1.1.Instance) && true))))
  refine br.h2 h ?_ ?_ ?_
  · rfl
  · clear h; intro hb h; conv => whnf
    all_goals (cases h)
    all_goals exact rfl
  clear h; intro hb h; conv => whnf
  refine br.h2 h ?_ ?_ ?_
  · rfl
  · clear h; intro hb h; conv => whnf
    all_goals (cases h)
    all_goals exact rfl
  clear h; intro hb h; conv => whnf
  refine br.h2 h ?_ ?_ ?_
  · rfl
  · clear h; intro hb h; conv => whnf
    all_goals (cases h)
    all_goals exact rfl
  clear h; intro hb h; conv => whnf
  obtain ⟨a2, hy, h2⟩ := obind.elim h; clear h; have h := h2; clear h2
  refine sumK.introF [] (sumRun_of (aqs := []) ra_nil (r25_eq hy) rfl rfl rfl rfl) ?_
  conv => whnf
  all_goals (cases h)
  all_goals exact rfl
theorem ok5 (R10_Get : (List UInt8) → Option (api_Cover × (List UInt8) × Int)) (R10_Put : api_Cover → (List UInt8) → Option ((List UInt8) × Int)) (gue_Get : (List UInt8) → Option (api_Cover × (List UInt8) × Int)) (gue_Put : api_Cover → (List UInt8) → Option ((List UInt8) × Int)) (law10_awake : Option Bool) (hS : SumsOK Try.prog (aget (sums5 R10_Get R10_Put gue_Get gue_Put law10_awake))) : SumOK Try.prog 5 (s5 (law10_GueTellsF R10_Get R10_Put gue_Get gue_Put law10_awake)) := by
  refine SumOK.of_leads tab_ok (fun ar r ha hr => ?_) ⟨Try.f5, rfl, by decide, rfl⟩
  simp only [s5] at ha hr
  unfold r5 at hr
  split at hr <;> try (cases hr; done)
  split at hr <;> cases hr
  rename_i x h
  refine ⟨_, rfl, (leads5 R10_Get R10_Put gue_Get gue_Put law10_awake hS _ _ _ x h).mono fun v H t hp => ?_⟩
  cases hp
  exact Res.val rfl trivial
def law10_GueTells : api_Cover → (List UInt8) → (List UInt8) → Option Bool := law10_GueTellsF R10_Get R10_Put gue_Get gue_Put law10_awake
theorem lift5 : SumOK Try.prog 5 (s5 law10_GueTells) := ok5 R10_Get R10_Put gue_Get gue_Put law10_awake (SumsOK.of_tab ⟨lift29, lift27, lift28, lift26, lift25, trivial⟩)
end Go.Vm.Code

namespace Go.Vm.Code
open Go Go.Vm Go.Proofs
set_option maxRecDepth 100000
set_option maxHeartbeats 4000000
set_option linter.unusedVariables false

/-! cloakroom/cloakroomlaw10.GueBack -/
def law10_GueBackF (gue_Get : (List UInt8) → Option (api_Cover × (List UInt8) × Int)) (gue_Put : api_Cover → (List UInt8) → Option ((List UInt8) × Int)) (law10_awake : Option Bool) (c : api_Cover) (inner : List UInt8) (ata2 : Int) : Option Bool :=
  cond (decide ((inner.length : Int) > 200))
    (
    (law10_awake).bind fun a =>
    some (a))
    (
    (gue_Put c inner).bind fun p =>
    cond (p.2 != 0)
      (
      cond (p.1 == [])
        (
        (law10_awake).bind fun a1 =>
        some (a1))
        (
        some (false)))
      (
      (gue_Get p.1).bind fun xg =>
      cond (xg.2.2 != 0)
        (
        some (false))
        (
        let t := !((xg.1.V6 == c.V6) && ((xg.1.Backend == c.Backend) && ((xg.1.Cookie == c.Cookie) && ((xg.1.First == c.First) && ((xg.1.Instance == c.Instance) && true)))))
        cond (t)
          (
          some (false))
          (
          cond (!(xg.2.1 == inner))
            (
            some (false))
            (
            let t1 := (p.1.length : Int) != (wI .i64 (18 + (inner.length : Int)))
            cond (t1)
              (
              some (false))
              (
              let t2 := wI .i64 (((wI .i64 ata2).tmod 144).tdiv 8)
              let t3 := wI .i64 (((wI .i64 ata2).tmod 144).tdiv 8)
              oreq (decide ((0 : Int) ≤ t3 ∧ t3 < (p.1.length : Int))) <|
              ((bI p.1)[t3.toNat]?).bind fun (e : Int) =>
              oreq (decide (0 ≤ (((wI .i64 ata2).tmod 144).tmod 8))) <|
              let t4 := wI .u8 (1 * 2 ^ (min (((wI .i64 ata2).tmod 144).tmod 8).toNat 8))
              oreq (decide ((0 : Int) ≤ t2 ∧ t2 < (p.1.length : Int))) <|
              oreq (decide (t2.toNat < (bI p.1).length)) <|
              let row := (bI p.1).set t2.toNat (ixorI .u8 e t4)
              oreq (decide (p.1.length ≤ row.length)) <|
              (gue_Get (iB (row.take p.1.length))).bind fun xg1 =>
              cond (xg1.2.2 != 0)
                (
                (law10_awake).bind fun a2 =>
                some (a2))
                (
                some (false))))))))
def post6 (x : Bool) (v : Value) (H : Hp) : Prop := v = .bool x
def r6 (g : api_Cover → (List UInt8) → Int → Option Bool) : List SArg → Option SRes
  | [.v (.agg ⟨[.bool a0_1, .int .i64 a0_2, .int .u64 a0_3, .bool a0_4, .int .i64 a0_5]⟩), .v (.string ⟨⟨a1_1⟩⟩), .v (.int .u8 a2_1)] => match g (api_Cover.mk a0_1 a0_2 a0_3 a0_4 a0_5) a1_1 a2_1 with | some x => some ⟨.bool x, [], []⟩ | none => none
  | _ => none
def s6 (g : api_Cover → (List UInt8) → Int → Option Bool) : Summ := ⟨[.v, .v, .v], r6 g⟩
theorem r6_eq {g : api_Cover → (List UInt8) → Int → Option Bool} {a0_1 : Bool} {a0_2 : Int} {a0_3 : Int} {a0_4 : Bool} {a0_5 : Int} {a1_1 : List UInt8} {a2_1 : Int} {x : Bool} (hx : g (api_Cover.mk a0_1 a0_2 a0_3 a0_4 a0_5) a1_1 a2_1 = some x) : (s6 g).run [.v (.agg ⟨[.bool a0_1, .int .i64 a0_2, .int .u64 a0_3, .bool a0_4, .int .i64 a0_5]⟩), .v (.string ⟨⟨a1_1⟩⟩), .v (.int .u8 a2_1)] = some ⟨.bool x, [], []⟩ := by
  show r6 g [.v (.agg ⟨[.bool a0_1, .int .i64 a0_2, .int .u64 a0_3, .bool a0_4, .int .i64 a0_5]⟩), .v (.string ⟨⟨a1_1⟩⟩), .v (.int .u8 a2_1)] = _
  simp only [r6, hx]
abbrev sums6 (gue_Get : (List UInt8) → Option (api_Cover × (List UInt8) × Int)) (gue_Put : api_Cover → (List UInt8) → Option ((List UInt8) × Int)) (law10_awake : Option Bool) : List (Nat × Summ) := [(28, s28 gue_Get), (26, s26 gue_Put), (25, s25 law10_awake)]
theorem leads6 (gue_Get : (List UInt8) → Option (api_Cover × (List UInt8) × Int)) (gue_Put : api_Cover → (List UInt8) → Option ((List UInt8) × Int)) (law10_awake : Option Bool) (hS : SumsOK Try.prog (aget (sums6 gue_Get gue_Put law10_awake))) (c : api_Cover) (inner : List UInt8) (ata2 : Int) (res : Bool) (h : law10_GueBackF gue_Get gue_Put law10_awake c inner ata2 = some res) :
    Leads Try.prog 6 0 ⟨⟨6, 90, [(0, .agg ⟨[.bool c.V6, .int .i64 c.Backend, .int .u64 c.Cookie, .bool c.First, .int .i64 c.Instance]⟩), (1, .string ⟨⟨inner⟩⟩), (2, .int .u8 ata2)], [.code k6_33], [], false, none⟩, [], [], 0⟩ (fun v H _ => post6 res v H) := by
  unfold law10_GueBackF at h
  refine ev_ok tab_ok hS true 3000 ?_
  conv => whnf
  refine br.h h ?_ ?_ ?_
  · rfl
  · clear h; intro hb h; conv => whnf
    obtain ⟨a, hy, h2⟩ := obind.elim h; clear h; have h := h2; clear h2
    refine sumK.introF [] (sumRun_of (aqs := []) ra_nil (r25_eq hy) rfl rfl rfl rfl) ?_
    conv => whnf
    all_goals (cases h)
    all_goals exact rfl
  clear h; intro hb h; conv => whnf
  obtain ⟨p, hy, h2⟩ := obind.elim h; clear h; have h := h2; clear h2
  refine sumK.introF [] (sumRun_of (aqs := [.v (.agg ⟨[.bool c.V6, .int .i64 c.Backend, .int .u64 c.Cookie, .bool c.First, .int .i64 c.Instance]⟩), .v (.string ⟨⟨inner⟩⟩)]) (ra_cons rfl (ra_cons rfl ra_nil)) (r26_eq hy) rfl rfl rfl rfl) ?_
  conv => whnf
  refine br.h h ?_ ?_ ?_
  · rfl
  · clear h; intro hb h; conv => whnf
    refine br.h2 h ?_ ?_ ?_
    · rfl
    · clear h; intro hb h; conv => whnf
      all_goals (cases h)
      all_goals exact rfl
    clear h; intro hb h; conv => whnf
    obtain ⟨a1, hy, h2⟩ := obind.elim h; clear h; have h := h2; clear h2
    refine sumK.introF [] (sumRun_of (aqs := []) ra_nil (r25_eq hy) rfl rfl rfl rfl) ?_
    conv => whnf
    all_goals (cases h)
    all_goals exact rfl
  clear h; intro hb h; conv => whnf
  obtain ⟨xg, hy, h2⟩ := obind.elim h; clear h; have h := h2; clear h2
  refine sumK.introF [] (sumRun_of (aqs := [.v (.string ⟨⟨p.1⟩⟩)]) (ra_cons rfl ra_nil) (r28_eq hy) rfl rfl rfl rfl) ?_
  conv => whnf
  refine br.h h ?_ ?_ ?_
  · rfl
  · clear h; intro hb h; conv => whnf
    all_goals (cases h)
    all_goals exact rfl
  clear h; intro hb h; conv => whnf
  let t : Bool := !((xg.1.V6 == c.V6) && ((xg.1.Backend == c.Backend) && ((xg.1.Cookie == c.Cookie) && ((xg.1.First == c.First) && ((xg.1.Instance == c.Instance) && true)))))
  refine br.h h ?_ ?_ ?_
  · rfl
  · clear h; intro hb h; conv => whnf
    all_goals (cases h)
    all_goals exact rfl
  clear h; intro hb h; conv => whnf
  refine br.h h ?_ ?_ ?_
  · rfl
  · clear h; intro hb h; conv => whnf
    all_goals (cases h)
    all_goals exact rfl
  clear h; intro hb h; conv => whnf
  let t1 : Bool := (p.1.length : Int) != (wI .i64 (18 + (inner.length : Int)))
  refine br.h h ?_ ?_ ?_
  · rfl
  · clear h; intro hb h; conv => whnf
    all_goals (cases h)
    all_goals exact rfl
  clear h; intro hb h; conv => whnf
  refine pk_s2b ?_
  conv => whnf
  let t2 : Int := wI .i64 (((wI .i64 ata2).tmod 144).tdiv 8)
  let t3 : Int := wI .i64 (((wI .i64 ata2).tmod 144).tdiv 8)
  replace h := oreq.elim h; have hb := h.1; replace h := h.2
  first | (refine req.intro hb ?_; conv => whnf) | skip
  obtain ⟨e, hy, h2⟩ := obind.elim h; clear h; have h := h2; clear h2
  refine rd.I hy (by first | rfl | (rw [Nat.zero_add, Nat.mul_one]; done) | omega) ?_
  conv => whnf
  replace h := oreq.elim h; have hb := h.1; replace h := h.2
  first | (refine req.intro hb ?_; conv => whnf) | skip
  let t4 : Int := wI .u8 (1 * 2 ^ (min (((wI .i64 ata2).tmod 144).tmod 8).toNat 8))
  replace h := oreq.elim h; have hb := h.1; replace h := h.2
  first | (refine req.intro hb ?_; conv => whnf) | skip
  replace h := oreq.elim h; have hb := h.1; replace h := h.2
  refine st_I hb (by first | rfl | (rw [Nat.zero_add, Nat.mul_one]; done) | omega) ?_
  conv => whnf
  let row : List Int := (bI p.1).set t2.toNat (ixorI .u8 e t4)
  replace h := oreq.elim h; have hb := h.1; replace h := h.2
  refine req.intro (by (first | rfl | (simp [vI, vB, vS, bI, oneC, addrBlk, cellsL, Value.cells] at *; omega) | (simp [vI, vB, vS, bI, oneC, addrBlk, cellsL, Value.cells] at *; done))) ?_
  conv => whnf
  refine pk_b2s ?_
  conv => whnf
  obtain ⟨xg1, hy, h2⟩ := obind.elim h; clear h; have h := h2; clear h2
  refine sumK.introF [] (sumRun_of (aqs := [.v (.string ⟨⟨iB (row.take p.1.length)⟩⟩)]) (ra_cons rfl ra_nil) (r28_eq hy) rfl rfl rfl rfl) ?_
  conv => whnf
  refine br.h2 h ?_ ?_ ?_
  · rfl
  · clear h; intro hb h; conv => whnf
    all_goals (cases h)
    all_goals exact rfl
  clear h; intro hb h; conv => whnf
  obtain ⟨a2, hy, h2⟩ := obind.elim h; clear h; have h := h2; clear h2
  refine sumK.introF [] (sumRun_of (aqs := []) ra_nil (r25_eq hy) rfl rfl rfl rfl) ?_
  conv => whnf
  all_goals (cases h)
  all_goals exact rfl
theorem ok6 (gue_Get : (List UInt8) → Option (api_Cover × (List UInt8) × Int)) (gue_Put : api_Cover → (List UInt8) → Option ((List UInt8) × Int)) (law10_awake : Option Bool) (hS : SumsOK Try.prog (aget (sums6 gue_Get gue_Put law10_awake))) : SumOK Try.prog 6 (s6 (law10_GueBackF gue_Get gue_Put law10_awake)) := by
  refine SumOK.of_leads tab_ok (fun ar r ha hr => ?_) ⟨Try.f6, rfl, by decide, rfl⟩
  simp only [s6] at ha hr
  unfold r6 at hr
  split at hr <;> try (cases hr; done)
  split at hr <;> cases hr
  rename_i x h
  refine ⟨_, rfl, (leads6 gue_Get gue_Put law10_awake hS _ _ _ x h).mono fun v H t hp => ?_⟩
  cases hp
  exact Res.val rfl trivial
def law10_GueBack : api_Cover → (List UInt8) → Int → Option Bool := law10_GueBackF gue_Get gue_Put law10_awake
theorem lift6 : SumOK Try.prog 6 (s6 law10_GueBack) := ok6 gue_Get gue_Put law10_awake (SumsOK.of_tab ⟨lift28, lift26, lift25, trivial⟩)
end Go.Vm.Code

/- GueTells and GueBack, in plain words. -/
namespace Go.Vm.Code
open Go Go.Vm
theorem awake10 : law10_awake = some true := by decide +kernel
theorem gueTells (c : api_Cover) (l s : List UInt8) (hc : 0 ≤ c.Cookie ∧ c.Cookie < 2 ^ 64) : law10_GueTells c l s = some true := by
  unfold law10_GueTells law10_GueTellsF
  rw [awake10]
  by_cases h1 : (l.length : Int) > 200
  · rw [cond_p h1]; rfl
  rw [cond_n h1]
  by_cases h2 : (s.length : Int) > 200
  · rw [cond_p h2]; rfl
  rw [cond_n h2, gput_eq hc, rput10_eq hc, gget_eq (by omega), rget10_eq (by omega)]
  simp only [Option.bind_some, beq_self_eq_true, cond_true, Bool.and_self]

/-- bytes taken apart: 3, 1, 2, 1, 1, 2, 8 -/
theorem parts10 {a b c d e f g r : List UInt8} (ha : a.length = 3) (hb : b.length = 1) (hc : c.length = 2) (hd : d.length = 1) (he : e.length = 1) (hf : f.length = 2) (hg : g.length = 8) :
    let s := a ++ b ++ c ++ d ++ e ++ f ++ g ++ r
    s.take 3 = a ∧ (s.drop 3).take 1 = b ∧ (s.drop 4).take 2 = c ∧ (s.drop 6).take 1 = d ∧ (s.drop 7).take 1 = e ∧ (s.drop 10).take 8 = g ∧ s.drop 18 = r ∧ s.take 8 = a ++ b ++ c ++ d ++ e ∧ s.drop 10 = g ++ r := by
  have da : ∀ x : List UInt8, (a ++ x).drop 3 = x := fun x => by rw [← ha]; exact List.drop_left
  have db : ∀ x : List UInt8, (b ++ x).drop 1 = x := fun x => by rw [← hb]; exact List.drop_left
  have dc : ∀ x : List UInt8, (c ++ x).drop 2 = x := fun x => by rw [← hc]; exact List.drop_left
  have dd : ∀ x : List UInt8, (d ++ x).drop 1 = x := fun x => by rw [← hd]; exact List.drop_left
  have de : ∀ x : List UInt8, (e ++ x).drop 1 = x := fun x => by rw [← he]; exact List.drop_left
  have df : ∀ x : List UInt8, (f ++ x).drop 2 = x := fun x => by rw [← hf]; exact List.drop_left
  have dg : ∀ x : List UInt8, (g ++ x).drop 8 = x := fun x => by rw [← hg]; exact List.drop_left
  simp only []
  have e8 : (a ++ b ++ c ++ d ++ e ++ f ++ g ++ r).take 8 = a ++ b ++ c ++ d ++ e := by
    rw [show a ++ b ++ c ++ d ++ e ++ f ++ g ++ r = (a ++ b ++ c ++ d ++ e) ++ (f ++ g ++ r) by simp, show 8 = (a ++ b ++ c ++ d ++ e).length by simp; omega]
    exact List.take_left
  rw [e8]
  simp only [List.append_assoc]
  have e4 : (a ++ (b ++ (c ++ (d ++ (e ++ (f ++ (g ++ r))))))).drop 4 = c ++ (d ++ (e ++ (f ++ (g ++ r)))) := by rw [show 4 = 3 + 1 from rfl, ← List.drop_drop, da, db]
  have e6 : (a ++ (b ++ (c ++ (d ++ (e ++ (f ++ (g ++ r))))))).drop 6 = d ++ (e ++ (f ++ (g ++ r))) := by rw [show 6 = 4 + 2 from rfl, ← List.drop_drop, e4, dc]
  have e7 : (a ++ (b ++ (c ++ (d ++ (e ++ (f ++ (g ++ r))))))).drop 7 = e ++ (f ++ (g ++ r)) := by rw [show 7 = 6 + 1 from rfl, ← List.drop_drop, e6, dd]
  have e10 : (a ++ (b ++ (c ++ (d ++ (e ++ (f ++ (g ++ r))))))).drop 10 = g ++ r := by rw [show 10 = (7 + 1) + 2 from rfl, ← List.drop_drop, ← List.drop_drop, e7, de, df]
  have e18 : (a ++ (b ++ (c ++ (d ++ (e ++ (f ++ (g ++ r))))))).drop 18 = r := by rw [show 18 = 10 + 8 from rfl, ← List.drop_drop, e10, dg]
  refine ⟨by rw [← ha]; exact List.take_left, ?_, ?_, ?_, ?_, ?_, e18, trivial, e10⟩
  · rw [da, ← hb]; exact List.take_left
  · rw [e4, ← hc]; exact List.take_left
  · rw [e6, ← hd]; exact List.take_left
  · rw [e7, ← he]; exact List.take_left
  · rw [e10, ← hg]; exact List.take_left
/-- a cover's bytes in their parts -/
theorem hd_parts (c : api_Cover) : hd c = [71, 85, 1] ++ be (kd c.V6) 1 ++ be c.Backend.toNat 2 ++ be (bt c.First) 1 ++ be c.Instance.toNat 1 ++ be (65535 - norm (wsum (hd0 c))) 2 ++ be c.Cookie.toNat 8 := by
  obtain ⟨_, _, _, _, _, _, _, p8, p9⟩ := parts10 (a := [71, 85, 1]) (b := be (kd c.V6) 1) (c := be c.Backend.toNat 2) (d := be (bt c.First) 1) (e := be c.Instance.toNat 1) (f := be 0 2) (g := be c.Cookie.toNat 8) (r := []) rfl (by simp) (by simp) (by simp) (by simp) (by simp) (by simp)
  simp only [List.append_nil] at p8 p9
  unfold hd sset
  rw [show hd0 c = [71, 85, 1] ++ be (kd c.V6) 1 ++ be c.Backend.toNat 2 ++ be (bt c.First) 1 ++ be c.Instance.toNat 1 ++ be 0 2 ++ be c.Cookie.toNat 8 from rfl, p8, p9]
theorem hd_sum (c : api_Cover) : wsum (hd c) % 65535 = 0 ∧ wsum (hd c) ≠ 0 := by
  have n1 := norm_le (wsum (hd0 c))
  have n2 := norm_mod (wsum (hd0 c))
  have n3 := norm_zero (wsum (hd0 c))
  have w := wsum_sset (s := hd0 c) (p := 8) (k := 2) (n := 65535 - norm (wsum (hd0 c))) (by rw [hd0_len]; omega) (by omega) (by omega)
  have z : ((hd0 c).drop 8).take 2 = be 0 2 := by
    obtain ⟨_, _, _, _, p5, _, _, _, _⟩ := parts10 (a := [71, 85, 1]) (b := be (kd c.V6) 1) (c := be c.Backend.toNat 2) (d := be (bt c.First) 1) (e := be c.Instance.toNat 1) (f := be 0 2) (g := be c.Cookie.toNat 8) (r := []) rfl (by simp) (by simp) (by simp) (by simp) (by simp) (by simp)
    unfold hd0
    rw [show [71, 85, 1] ++ be (kd c.V6) 1 ++ be c.Backend.toNat 2 ++ be (bt c.First) 1 ++ be c.Instance.toNat 1 ++ be 0 2 ++ be c.Cookie.toNat 8 = ([71, 85, 1] ++ be (kd c.V6) 1 ++ be c.Backend.toNat 2 ++ be (bt c.First) 1 ++ be c.Instance.toNat 1) ++ (be 0 2 ++ be c.Cookie.toNat 8) by simp,
      List.drop_append_of_le_length (by simp), List.drop_of_length_le (by simp), List.nil_append, List.take_append_of_le_length (by simp), List.take_of_length_le (by simp)]
  rw [z, wsum_be2 (by omega), wsum_be2 (by omega)] at w
  unfold hd
  omega
theorem get10_hd {c : api_Cover} {l : List UInt8} (h : C10 c) (hc : 0 ≤ c.Cookie ∧ c.Cookie < 2 ^ 64) (hl : l.length ≤ 9000) : get10 (hd c ++ l) = (c, l, 0) := by
  obtain ⟨⟨a1, a2⟩, a3, a4⟩ := h
  have hlen := hd_len c
  have hsum := hd_sum c
  have tk : (hd c ++ l).take 18 = hd c := by rw [← hlen]; exact List.take_left
  obtain ⟨p1, p2, p3, p4, p5, p6, p7, _, _⟩ := parts10 (a := [71, 85, 1]) (b := be (kd c.V6) 1) (c := be c.Backend.toNat 2) (d := be (bt c.First) 1) (e := be c.Instance.toNat 1) (f := be (65535 - norm (wsum (hd0 c))) 2) (g := be c.Cookie.toNat 8) (r := l) rfl (by simp) (by simp) (by simp) (by simp) (by simp) (by simp)
  rw [← hd_parts] at p1 p2 p3 p4 p5 p6 p7
  have k1 : kd c.V6 < 256 := by cases c.V6 <;> decide
  have k2 : bt c.First < 256 := by cases c.First <;> decide
  have v3 : b1 (hd c ++ l) 3 = kd c.V6 := by unfold b1; rw [p2, val_be_lt (by omega)]
  have v6 : b1 (hd c ++ l) 6 = bt c.First := by unfold b1; rw [p4, val_be_lt (by omega)]
  have v7 : b1 (hd c ++ l) 7 = c.Instance.toNat := by unfold b1; rw [p5, val_be_lt (by omega)]
  unfold get10
  rw [if_neg (by simp; omega), if_neg (by rw [p1]; simp), v3, if_neg (by cases c.V6 <;> simp [kd]), v6, if_neg (by cases c.First <;> simp [bt]), if_neg (by simp; omega), tk, if_neg (by rw [norm_zero_mod hsum.1 hsum.2]; simp), v7, p3, p6, p7, val_be_lt (by omega), val_be_lt (by omega)]
  obtain ⟨v, b, k, f, i⟩ := c
  simp only at a1 a2 a3 a4 hc ⊢
  rw [Int.toNat_of_nonneg a1, Int.toNat_of_nonneg a3, Int.toNat_of_nonneg hc.1]
  cases v <;> cases f <;> rfl
/-- a bit turned round -/
theorem xor_bit : ∀ (e : Fin 256) (b : Fin 8), ((e.val ^^^ 2 ^ b.val) = e.val + 2 ^ b.val ∨ (e.val ^^^ 2 ^ b.val) + 2 ^ b.val = e.val) ∧ (e.val ^^^ 2 ^ b.val) < 256 := by decide +kernel
/-- the weight of a byte in the sum -/
def wt (i : Nat) : Nat := if i % 2 = 0 then 256 else 1
theorem wsum_put : ∀ (l : List UInt8) (i : Nat) (x : UInt8) (h : i < l.length), wsum (l.set i x) + l[i].toNat * wt i = wsum l + x.toNat * wt i
  | [], i, x, h => by simp at h
  | [b], 0, x, _ => by simp [wsum, wt]; omega
  | [b], i + 1, x, h => by simp at h
  | b :: c :: l, 0, x, _ => by simp [wsum, wt]; omega
  | b :: c :: l, 1, x, _ => by simp [wsum, wt]; omega
  | b :: c :: l, i + 2, x, h => by
    have h' : i < l.length := by simpa using h
    have := wsum_put l i x h'
    simp only [List.set_cons_succ, wsum, List.getElem_cons_succ]
    have e : wt (i + 2) = wt i := by unfold wt; rw [Nat.add_mod_right]
    rw [e]; omega
theorem get10_bad {s : List UInt8} (h : 18 ≤ s.length) (hn : wsum (s.take 18) % 65535 ≠ 0) : (get10 s).2.2 ≠ 0 := by
  have n2 := norm_mod (wsum (s.take 18))
  unfold get10
  rw [if_neg (by omega)]
  split
  · simp
  split
  · simp
  split
  · simp
  split
  · simp
  rw [if_pos (by omega)]; simp
theorem gueBack (c : api_Cover) (l : List UInt8) (p : Int) (hc : 0 ≤ c.Cookie ∧ c.Cookie < 2 ^ 64) (hp : 0 ≤ p ∧ p < 2 ^ 32) : law10_GueBack c l p = some true := by
  unfold law10_GueBack law10_GueBackF
  rw [awake10]
  by_cases h1 : (l.length : Int) > 200
  · rw [cond_p h1]; rfl
  rw [cond_n h1, gput_eq hc, Option.bind_some]
  by_cases h : C10 c
  · have e : put10 c l = (hd c ++ l, 0) := by unfold put10; rw [if_neg (by simpa using h), if_neg (by omega)]
    rw [e]
    have hlen := hd_len c
    have hl2 : (hd c ++ l).length = 18 + l.length := by simp; omega
    simp only [bne_self_eq_false, cond_false]
    rw [gget_eq (by omega), Option.bind_some, get10_hd h hc (by omega)]
    simp only [bne_self_eq_false, cond_false, beq_self_eq_true, Bool.and_self, Bool.not_true]
    have e1 : (((hd c ++ l).length : Int) != wI .i64 (18 + (l.length : Int))) = false := by rw [wI64 (by omega) (by omega), bne_eq_false_iff_eq]; omega
    rw [e1, cond_false, wI64 (n := p) (by omega) (by omega), Int.tmod_eq_emod_of_nonneg (a := p) hp.1]
    have m0 := Int.emod_nonneg p (show (144 : Int) ≠ 0 by decide)
    have m1 := Int.emod_lt_of_pos p (show (0 : Int) < 144 by decide)
    obtain ⟨q, hq⟩ := Int.eq_ofNat_of_zero_le m0
    rw [hq] at m1 ⊢
    rw [Int.tdiv_eq_ediv_of_nonneg (by omega), Int.tmod_eq_emod_of_nonneg (by omega), wI64 (n := (q : Int) / 8) (by omega) (by omega)]
    have eq8 : ((q : Int) / 8) = ((q / 8 : Nat) : Int) := rfl
    have em8 : ((q : Int) % 8) = ((q % 8 : Nat) : Int) := rfl
    rw [eq8, em8, oreq_p (by omega), Int.toNat_natCast]
    have hi : q / 8 < (hd c ++ l).length := by omega
    generalize ht : hd c ++ l = t at *
    have eg : (bI t)[q / 8]? = some (t[q / 8].toNat : Int) := by simp [bI, hi]
    rw [eg, Option.bind_some, oreq_p (by omega), Int.toNat_natCast, oreq_p (by omega), oreq_p (by rw [bI_len]; omega)]
    have hb := t[q / 8].toNat_lt
    obtain ⟨x1, x2⟩ := xor_bit ⟨t[q / 8].toNat, by omega⟩ ⟨q % 8, by omega⟩
    simp only at x1 x2
    have hpw : 2 ^ (q % 8) ≤ 128 := by
      have : 2 ^ (q % 8) ≤ 2 ^ 7 := Nat.pow_le_pow_right (by decide) (by omega)
      simpa using this
    have hpw0 : 0 < 2 ^ (q % 8) := Nat.pow_pos (by decide)
    have eu : wI .u8 (1 * 2 ^ (min (q % 8) 8)) = ((2 ^ (q % 8) : Nat) : Int) := by
      rw [Nat.min_eq_left (by omega), Int.one_mul, show ((2 : Int) ^ (q % 8)) = ((2 ^ (q % 8) : Nat) : Int) by push_cast; rfl, wU8 (by omega) (by omega)]
    have ex : ixorI .u8 (t[q / 8].toNat : Int) ((2 ^ (q % 8) : Nat) : Int) = ((t[q / 8].toNat ^^^ 2 ^ (q % 8) : Nat) : Int) := by
      show IntKind.wrap .u8 _ = _
      rw [show IntKind.bits .u8 = 8 from rfl, BitVec.toNat_xor, BitVec.toNat_ofInt, BitVec.toNat_ofInt]
      have y1 : ((t[q / 8].toNat : Int) % 2 ^ 8).toNat = t[q / 8].toNat := by omega
      have y2 : (((2 ^ (q % 8) : Nat) : Int) % 2 ^ 8).toNat = 2 ^ (q % 8) := by omega
      rw [show ((2 ^ 8 : Nat) : Int) = 2 ^ 8 from rfl, y1, y2]
      exact wU8 (by omega) (by omega)
    simp only [eu, ex]
    rw [oreq_p (by simp)]
    have er : iB (((bI t).set (q / 8) ((t[q / 8].toNat ^^^ 2 ^ (q % 8) : Nat) : Int)).take t.length) = t.set (q / 8) (UInt8.ofNat (t[q / 8].toNat ^^^ 2 ^ (q % 8))) := by
      rw [List.take_of_length_le (by simp)]
      unfold iB bI
      rw [List.map_set, List.map_map]
      congr 1
      simp [Function.comp_def]
    rw [er, gget_eq (by simp; omega), Option.bind_some]
    have hbad : (get10 (t.set (q / 8) (UInt8.ofNat (t[q / 8].toNat ^^^ 2 ^ (q % 8))))).2.2 ≠ 0 := by
      apply get10_bad (by simp; omega)
      have tk : t.take 18 = hd c := by rw [← ht, ← hlen]; exact List.take_left
      have hw := wsum_put (hd c) (q / 8) (UInt8.ofNat (t[q / 8].toNat ^^^ 2 ^ (q % 8))) (by omega)
      have hx : (hd c)[q / 8]'(by omega) = t[q / 8] := by simp only [← tk, List.getElem_take]
      have hs := hd_sum c
      rw [List.take_set, tk]
      rw [hx, UInt8.toNat_ofNat', Nat.mod_eq_of_lt x2] at hw
      have hwt : wt (q / 8) = 256 ∨ wt (q / 8) = 1 := by unfold wt; split <;> simp
      generalize t[q / 8].toNat ^^^ 2 ^ (q % 8) = y at *
      generalize wsum ((hd c).set (q / 8) (UInt8.ofNat y)) = W at *
      generalize 2 ^ (q % 8) = z at *
      rcases hwt with e | e <;> rw [e] at hw <;> omega
    have eb : ((get10 (t.set (q / 8) (UInt8.ofNat (t[q / 8].toNat ^^^ 2 ^ (q % 8))))).2.2 != 0) = true := by rw [bne_iff_ne]; exact hbad
    rw [eb]; rfl
  · have e : put10 c l = ([], 1) := by unfold put10; rw [if_pos h]
    rw [e]; rfl
end Go.Vm.Code
