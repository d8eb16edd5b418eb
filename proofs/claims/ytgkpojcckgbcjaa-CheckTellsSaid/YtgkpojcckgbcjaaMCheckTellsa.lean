import Derived.Test.YtgkpojcckgbcjaaVmLift
import Derived.Test.YtgkpojcckgbcjaaCodeA
/- Plain lemmas on the lifted functions' words. -/
namespace Go.Vm
open Go

/-! numbers of the machine -/
theorem wI64 {n : Int} (h1 : -9223372036854775808 ≤ n) (h2 : n < 9223372036854775808) : wI .i64 n = n := by
  show IntKind.wrap .i64 n = n; rw [IntKind.wrap_i64]; omega
theorem wU64 {n : Int} (h1 : 0 ≤ n) (h2 : n < 18446744073709551616) : wI .u64 n = n := by
  show IntKind.wrap .u64 n = n
  simp only [IntKind.wrap, IntKind.bits, IntKind.signed]; simp; omega
theorem wU32 {n : Int} (h1 : 0 ≤ n) (h2 : n < 4294967296) : wI .u32 n = n := by
  show IntKind.wrap .u32 n = n
  simp only [IntKind.wrap, IntKind.bits, IntKind.signed]; simp; omega
theorem wU16 {n : Int} (h1 : 0 ≤ n) (h2 : n < 65536) : wI .u16 n = n := by
  show IntKind.wrap .u16 n = n
  simp only [IntKind.wrap, IntKind.bits, IntKind.signed]; simp; omega
theorem wU8 {n : Int} (h1 : 0 ≤ n) (h2 : n < 256) : wI .u8 n = n := by
  show IntKind.wrap .u8 n = n
  simp only [IntKind.wrap, IntKind.bits, IntKind.signed]; simp; omega
theorem wU64m (n : Int) : wI .u64 n = n % 18446744073709551616 := by
  show IntKind.wrap .u64 n = _
  simp only [IntKind.wrap, IntKind.bits, IntKind.signed]; simp
theorem wU32m (n : Int) : wI .u32 n = n % 4294967296 := by
  show IntKind.wrap .u32 n = _
  simp only [IntKind.wrap, IntKind.bits, IntKind.signed]; simp
theorem wU16m (n : Int) : wI .u16 n = n % 65536 := by
  show IntKind.wrap .u16 n = _
  simp only [IntKind.wrap, IntKind.bits, IntKind.signed]; simp
theorem wU8m (n : Int) : wI .u8 n = n % 256 := by
  show IntKind.wrap .u8 n = _
  simp only [IntKind.wrap, IntKind.bits, IntKind.signed]; simp

theorem bv64 {n : Nat} (h : n < 18446744073709551616) : (BitVec.ofInt 64 (n : Int)).toNat = n := by
  rw [BitVec.toNat_ofInt]; omega
theorem andI64 {a b : Nat} (ha : a < 9223372036854775808) (hb : b < 9223372036854775808) : andI .i64 (a : Int) (b : Int) = ((a &&& b : Nat) : Int) := by
  have h : a &&& b ≤ a := Nat.and_le_left
  show IntKind.wrap .i64 _ = _
  rw [show IntKind.bits .i64 = 64 from rfl, BitVec.toNat_and, bv64 (by omega), bv64 (by omega)]
  exact wI64 (by omega) (by omega)
theorem iorI64 {a b : Nat} (ha : a < 9223372036854775808) (hb : b < 9223372036854775808) : iorI .i64 (a : Int) (b : Int) = ((a ||| b : Nat) : Int) := by
  have h : a ||| b < 2 ^ 63 := Nat.or_lt_two_pow (by omega) (by omega)
  show IntKind.wrap .i64 _ = _
  rw [show IntKind.bits .i64 = 64 from rfl, BitVec.toNat_or, bv64 (by omega), bv64 (by omega)]
  exact wI64 (by omega) (by omega)
theorem andU64 {a b : Nat} (ha : a < 18446744073709551616) (hb : b < 18446744073709551616) : andI .u64 (a : Int) (b : Int) = ((a &&& b : Nat) : Int) := by
  have h : a &&& b ≤ a := Nat.and_le_left
  show IntKind.wrap .u64 _ = _
  rw [show IntKind.bits .u64 = 64 from rfl, BitVec.toNat_and, bv64 (by omega), bv64 (by omega)]
  exact wU64 (by omega) (by omega)
theorem iorU64 {a b : Nat} (ha : a < 18446744073709551616) (hb : b < 18446744073709551616) : iorI .u64 (a : Int) (b : Int) = ((a ||| b : Nat) : Int) := by
  have h : a ||| b < 2 ^ 64 := Nat.or_lt_two_pow (by omega) (by omega)
  show IntKind.wrap .u64 _ = _
  rw [show IntKind.bits .u64 = 64 from rfl, BitVec.toNat_or, bv64 (by omega), bv64 (by omega)]
  exact wU64 (by omega) (by omega)
theorem ixorU64 {a b : Nat} (ha : a < 18446744073709551616) (hb : b < 18446744073709551616) : ixorI .u64 (a : Int) (b : Int) = ((a ^^^ b : Nat) : Int) := by
  have h : a ^^^ b < 2 ^ 64 := Nat.xor_lt_two_pow (by omega) (by omega)
  show IntKind.wrap .u64 _ = _
  rw [show IntKind.bits .u64 = 64 from rfl, BitVec.toNat_xor, bv64 (by omega), bv64 (by omega)]
  exact wU64 (by omega) (by omega)
theorem and_mask (a k : Nat) : a &&& (2 ^ k - 1) = a % 2 ^ k := Nat.and_two_pow_sub_one_eq_mod a k
theorem or_low {a b k : Nat} (hb : b < 2 ^ k) : (a * 2 ^ k) ||| b = a * 2 ^ k + b := by
  rw [Nat.mul_comm]; exact (Nat.two_pow_add_eq_or_of_lt hb a).symm
/-- a number's lowest bits -/
theorem andI64_mask (k : Nat) {a m : Int} (hm : m = 2 ^ k - 1) (hk : k ≤ 62) (h0 : 0 ≤ a) (h1 : a < 9223372036854775808) : andI .i64 a m = a % 2 ^ k := by
  obtain ⟨n, rfl⟩ := Int.eq_ofNat_of_zero_le h0
  have hp : 2 ^ k ≤ 2 ^ 62 := Nat.pow_le_pow_right (by decide) hk
  have hp1 : 1 ≤ 2 ^ k := Nat.one_le_two_pow
  have : m = ((2 ^ k - 1 : Nat) : Int) := by rw [hm]; push_cast [hp1]; rfl
  rw [this, andI64 (by omega) (by omega), and_mask]; push_cast; rfl
theorem andU64_mask (k : Nat) {a m : Int} (hm : m = 2 ^ k - 1) (hk : k ≤ 64) (h0 : 0 ≤ a) (h1 : a < 18446744073709551616) : andI .u64 a m = a % 2 ^ k := by
  obtain ⟨n, rfl⟩ := Int.eq_ofNat_of_zero_le h0
  have hp : 2 ^ k ≤ 2 ^ 64 := Nat.pow_le_pow_right (by decide) hk
  have hp1 : 1 ≤ 2 ^ k := Nat.one_le_two_pow
  have : m = ((2 ^ k - 1 : Nat) : Int) := by rw [hm]; push_cast [hp1]; rfl
  rw [this, andU64 (by omega) (by omega), and_mask]; push_cast; rfl
/-- two numbers whose bits lie apart -/
theorem iorI64_low (k : Nat) {a b : Int} (h0 : 0 ≤ a) (h1 : a * 2 ^ k < 9223372036854775808) (hb0 : 0 ≤ b) (hb : b < 2 ^ k) (hb1 : b < 9223372036854775808) : iorI .i64 (a * 2 ^ k) b = a * 2 ^ k + b := by
  obtain ⟨n, rfl⟩ := Int.eq_ofNat_of_zero_le h0
  obtain ⟨m, rfl⟩ := Int.eq_ofNat_of_zero_le hb0
  have e : ((n : Int) * 2 ^ k) = ((n * 2 ^ k : Nat) : Int) := by push_cast; rfl
  rw [e] at h1 ⊢
  rw [iorI64 (by omega) (by omega), or_low (by exact_mod_cast hb)]; push_cast; rfl
theorem iorU64_low (k : Nat) {a b : Int} (h0 : 0 ≤ a) (h1 : a * 2 ^ k < 18446744073709551616) (hb0 : 0 ≤ b) (hb : b < 2 ^ k) (hb1 : b < 18446744073709551616) : iorI .u64 (a * 2 ^ k) b = a * 2 ^ k + b := by
  obtain ⟨n, rfl⟩ := Int.eq_ofNat_of_zero_le h0
  obtain ⟨m, rfl⟩ := Int.eq_ofNat_of_zero_le hb0
  have e : ((n : Int) * 2 ^ k) = ((n * 2 ^ k : Nat) : Int) := by push_cast; rfl
  rw [e] at h1 ⊢
  rw [iorU64 (by omega) (by omega), or_low (by exact_mod_cast hb)]; push_cast; rfl
theorem fdivP (a : Int) (k : Nat) : a.fdiv (2 ^ k) = a / 2 ^ k := Int.fdiv_eq_ediv_of_nonneg a (Int.le_of_lt (Int.pow_pos (by decide)))

/-! steps -/
theorem oreq_p {α : Type} {p : Prop} [Decidable p] {x : Option α} (h : p) : oreq (decide p) x = x := oreq.mk (decide_eq_true h)
theorem cond_p {α : Type} {p : Prop} [Decidable p] {x y : α} (h : p) : cond (decide p) x y = x := by rw [decide_eq_true h, cond_true]
theorem cond_n {α : Type} {p : Prop} [Decidable p] {x y : α} (h : ¬ p) : cond (decide p) x y = y := by rw [decide_eq_false h, cond_false]
theorem cond_dec {α : Type} {p : Prop} [Decidable p] {x y : α} : cond (decide p) x y = if p then x else y := by
  by_cases h : p <;> simp [h]

/-! loops -/
theorem iter_eq {σ ρ : Type} {step : σ → Option (Sum σ ρ)} (F : σ → ρ) (P : σ → Prop) (μ : σ → Nat)
    (h : ∀ s, P s → step s = some (.inr (F s)) ∨ ∃ s', step s = some (.inl s') ∧ P s' ∧ μ s' < μ s ∧ F s' = F s) : ∀ n s, P s → μ s < n → iter step n s = some (F s)
  | 0, s, hp, hn => by omega
  | n + 1, s, hp, hn => by
    rw [iter]
    rcases h s hp with e | ⟨s', e, hp', hm, hf⟩
    · rw [e]
    · rw [e]; exact hf ▸ iter_eq F P μ h n s' hp' (by omega)
theorem FUEL_eq : FUEL = 18446744073709551616 := rfl
end Go.Vm

namespace Go.Vm.Code
open Go Go.Vm Go.Proofs
set_option maxRecDepth 100000
set_option maxHeartbeats 4000000
set_option linter.unusedVariables false

@[ext] structure api_Key where
  A : Int
  B : Int
  deriving DecidableEq
@[ext] structure Arr4_Int where
  e0 : Int
  e1 : Int
  e2 : Int
  e3 : Int
  deriving DecidableEq
@[ext] structure sip_Hasher where
  made : Bool
  s : Arr4_Int
  last : Int
  count : Int
  deriving DecidableEq
@[ext] structure api_Addr where
  V6 : Bool
  Hi : Int
  Lo : Int
  deriving DecidableEq
@[ext] structure ipsix_Head where
  Class : Int
  Label : Int
  Next : Int
  Hop : Int
  Src : api_Addr
  Dst : api_Addr
  deriving DecidableEq
@[ext] structure octet_Reader where
  s : List UInt8
  made : Bool
  bad : Bool
  deriving DecidableEq
end Go.Vm.Code

namespace Go.Vm.Code
open Go Go.Vm Go.Proofs
set_option maxRecDepth 100000
set_option maxHeartbeats 4000000
set_option linter.unusedVariables false

/-! cloakroom/check.fold -/
def check_fold_s1 (n1 : Int) : Option (Sum Int Int) :=
  cond (decide (n1 > 65535))
    (
    let t := wI .i64 ((andI .i64 n1 65535) + (n1.fdiv (2 ^ 16)))
    some (.inl t))
    (
    some (.inr (n1)))
def check_foldF (n : Int) : Option Int :=
  iter (fun st => check_fold_s1 st) FUEL n
def post63 (x : Int) (v : Value) (H : Hp) : Prop := v = .int .i64 x
def r63 (g : Int → Option Int) : List SArg → Option SRes
  | [.v (.int .i64 a0_1)] => match g a0_1 with | some x => some ⟨.int .i64 x, [], []⟩ | none => none
  | _ => none
def s63 (g : Int → Option Int) : Summ := ⟨[.v], r63 g⟩
theorem r63_eq {g : Int → Option Int} {a0_1 : Int} {x : Int} (hx : g a0_1 = some x) : (s63 g).run [.v (.int .i64 a0_1)] = some ⟨.int .i64 x, [], []⟩ := by
  show r63 g [.v (.int .i64 a0_1)] = _
  simp only [r63, hx]
abbrev sums63 : List (Nat × Summ) := []
def head63_1 (n1 : Int) : VM :=
  ⟨⟨63, 11, [(0, .int .i64 n1)], [.code k63_6, .inLoop k63_6, .inBlock 0, .code k63_10], [], false, none⟩, [], [], 0⟩
theorem loop63_1 (hS : SumsOK Try.prog (aget (sums63))) (res : Int) : ∀ fuel (st : Int) (o : Int), iter (fun st => check_fold_s1 st) fuel st = some o → (o = res) →
    Leads Try.prog 63 0 (head63_1 st) (fun v H _ => post63 res v H) := by
  intro fuel st o h hc
  refine iter_leads (head := fun st => head63_1 st) (C := fun o => (o = res)) ?_ fuel st o h hc
  clear h hc o st fuel
  intro n1 o h hc
  replace h : check_fold_s1 n1 = some o := h
  show Leads Try.prog 63 0 (head63_1 n1) (fun v H _ => post63 res v H)
  unfold check_fold_s1 at h
  refine ev_ok tab_ok hS true 3000 ?_
  conv => whnf
  refine br.h2 h ?_ ?_ ?_
  · rfl
  · clear h; intro hb h; conv => whnf
    all_goals (cases h; cases hc)
    all_goals exact rfl
  clear h; intro hb h; conv => whnf
  let t : Int := wI .i64 ((andI .i64 n1 65535) + (n1.fdiv (2 ^ 16)))
  cases h; simp only [Sum.elim_inl, Sum.elim_inr, head63_1] at hc
  refine Leads.re hc [] rfl ?_ ?_ <;> (repeat' first | exact trivial | refine ⟨⟨_, rfl, rfl⟩, ?_⟩ | refine ⟨⟨_, _, rfl, rfl, .rowF (vI_flat _ _) id⟩, ?_⟩ | refine ⟨⟨_, _, rfl, rfl, .rowF (vS_flat _) id⟩, ?_⟩ | refine ⟨⟨_, _, rfl, rfl, .rowF (vB_flat _) id⟩, ?_⟩ | refine ⟨⟨_, _, rfl, rfl, .cells rfl⟩, ?_⟩ | refine ⟨⟨_, _, rfl, rfl, .row rfl id⟩, ?_⟩ | refine ⟨⟨_, _, rfl, rfl, .cr rfl⟩, ?_⟩ | refine ⟨⟨_, _, rfl, rfl, .rc rfl⟩, ?_⟩ | refine ⟨⟨_, _, rfl, rfl, .marks⟩, ?_⟩ | refine ⟨⟨_, _, rfl, rfl, .siter _ _⟩, ?_⟩ | refine ⟨⟨_, _, rfl, rfl, .loop rfl rfl rfl rfl (by repeat' first | exact trivial | refine ⟨rfl, ?_⟩) rfl rfl rfl rfl⟩, ?_⟩)
theorem leads63 (hS : SumsOK Try.prog (aget (sums63))) (n : Int) (res : Int) (h : check_foldF n = some res) :
    Leads Try.prog 63 0 ⟨⟨63, 11, [(0, .int .i64 n)], [.code k63_12], [], false, none⟩, [], [], 0⟩ (fun v H _ => post63 res v H) := by
  unfold check_foldF at h
  refine ev_ok tab_ok hS true 3000 ?_
  conv => whnf
  have hl := loop63_1 hS res _ _ _ h rfl; simp only [head63_1] at hl
  refine Leads.re hl [] rfl ?_ ?_ <;> (repeat' first | exact trivial | refine ⟨⟨_, rfl, rfl⟩, ?_⟩ | refine ⟨⟨_, _, rfl, rfl, .rowF (vI_flat _ _) id⟩, ?_⟩ | refine ⟨⟨_, _, rfl, rfl, .rowF (vS_flat _) id⟩, ?_⟩ | refine ⟨⟨_, _, rfl, rfl, .rowF (vB_flat _) id⟩, ?_⟩ | refine ⟨⟨_, _, rfl, rfl, .cells rfl⟩, ?_⟩ | refine ⟨⟨_, _, rfl, rfl, .row rfl id⟩, ?_⟩ | refine ⟨⟨_, _, rfl, rfl, .cr rfl⟩, ?_⟩ | refine ⟨⟨_, _, rfl, rfl, .rc rfl⟩, ?_⟩ | refine ⟨⟨_, _, rfl, rfl, .marks⟩, ?_⟩ | refine ⟨⟨_, _, rfl, rfl, .siter _ _⟩, ?_⟩ | refine ⟨⟨_, _, rfl, rfl, .loop rfl rfl rfl rfl (by repeat' first | exact trivial | refine ⟨rfl, ?_⟩) rfl rfl rfl rfl⟩, ?_⟩)
theorem ok63 (hS : SumsOK Try.prog (aget (sums63))) : SumOK Try.prog 63 (s63 (check_foldF)) := by
  refine SumOK.of_leads tab_ok (fun ar r ha hr => ?_) ⟨Try.f63, rfl, by decide, rfl⟩
  simp only [s63] at ha hr
  unfold r63 at hr
  split at hr <;> try (cases hr; done)
  split at hr <;> cases hr
  rename_i x h
  refine ⟨_, rfl, (leads63 hS _ x h).mono fun v H t hp => ?_⟩
  cases hp
  exact Res.val rfl trivial
def check_fold : Int → Option Int := check_foldF
theorem lift63 : SumOK Try.prog 63 (s63 check_fold) := ok63 (SumsOK.of_tab trivial)
end Go.Vm.Code

namespace Go.Vm.Code
open Go Go.Vm Go.Proofs
set_option maxRecDepth 100000
set_option maxHeartbeats 4000000
set_option linter.unusedVariables false

/-! cloakroom/check.Sum -/
def check_Sum_s1 (check_fold : Int → Option Int) (s : List UInt8) (xat : Int) (n : Int) : Option (Sum (Int × Int) Int) :=
  cond (decide (xat < (s.length : Int)))
    (
    oreq (decide (0 ≤ xat)) <|
    (s[xat.toNat]?).bind fun (b : UInt8) =>
    let t := wI .i64 ((wI .i64 (b.toNat : Int)) * 2 ^ 8)
    let t1 := decide ((wI .i64 (xat + 1)) < (s.length : Int))
    cond (t1)
      (
      oreq (decide (0 ≤ (wI .i64 (xat + 1)))) <|
      (s[(wI .i64 (xat + 1)).toNat]?).bind fun (b1 : UInt8) =>
      let t2 := wI .i64 (n + (iorI .i64 t (wI .i64 (b1.toNat : Int))))
      (check_fold t2).bind fun f =>
      some (.inl (wI .i64 (xat + 2), f)))
      (
      (check_fold (wI .i64 (n + t))).bind fun f1 =>
      some (.inl (wI .i64 (xat + 2), f1))))
    (
    some (.inr (n)))
def check_SumF (check_fold : Int → Option Int) (s : List UInt8) : Option Int :=
  iter (fun st => check_Sum_s1 check_fold s st.1 st.2) FUEL (0, 0)
def post29 (x : Int) (v : Value) (H : Hp) : Prop := v = .int .i64 x
def r29 (g : (List UInt8) → Option Int) : List SArg → Option SRes
  | [.v (.string ⟨⟨a0_1⟩⟩)] => match g a0_1 with | some x => some ⟨.int .i64 x, [], []⟩ | none => none
  | _ => none
def s29 (g : (List UInt8) → Option Int) : Summ := ⟨[.v], r29 g⟩
theorem r29_eq {g : (List UInt8) → Option Int} {a0_1 : List UInt8} {x : Int} (hx : g a0_1 = some x) : (s29 g).run [.v (.string ⟨⟨a0_1⟩⟩)] = some ⟨.int .i64 x, [], []⟩ := by
  show r29 g [.v (.string ⟨⟨a0_1⟩⟩)] = _
  simp only [r29, hx]
abbrev sums29 (check_fold : Int → Option Int) : List (Nat × Summ) := [(63, s63 check_fold)]
def head29_1 (s : List UInt8) (xat : Int) (n : Int) : VM :=
  ⟨⟨92, 32, [(0, .func (.yield 3) #[] #[]), (1, .pointer (some ⟨1, 0, none⟩)), (3, .int .i64 xat)], [.code k92_17, .inLoop k92_17, .inBlock 0], [], false, none⟩, [⟨29, 13, [(3, .pointer (some ⟨0, 0, none⟩))], [.inRangeFunc 3, .inBlock 0, .code k29_10], [2], false, none⟩], [(0, .cells [.int .i64 n]), (1, .cells [.string ⟨⟨s⟩⟩]), (2, .marks), (3, .loop ⟨.ready, none, 29, 13, [(3, .pointer (some ⟨0, 0, none⟩))], [7], k29_3, k29_5, 2⟩)], 4⟩
theorem loop29_1 (check_fold : Int → Option Int) (hS : SumsOK Try.prog (aget (sums29 check_fold))) (s : List UInt8) (res : Int) : ∀ fuel (st : Int × Int) (o : Int), iter (fun st => check_Sum_s1 check_fold s st.1 st.2) fuel st = some o → (o = res) →
    Leads Try.prog 29 0 (head29_1 s st.1 st.2) (fun v H _ => post29 res v H) := by
  intro fuel st o h hc
  refine iter_leads (head := fun st => head29_1 s st.1 st.2) (C := fun o => (o = res)) ?_ fuel st o h hc
  clear h hc o st fuel
  intro st o h hc
  obtain ⟨xat, n⟩ := st
  replace h : check_Sum_s1 check_fold s xat n = some o := h
  show Leads Try.prog 29 0 (head29_1 s xat n) (fun v H _ => post29 res v H)
  unfold check_Sum_s1 at h
  refine ev_ok tab_ok hS true 3000 ?_
  conv => whnf
  refine br.h2 h ?_ ?_ ?_
  · rfl
  · clear h; intro hb h; conv => whnf
    all_goals (cases h; cases hc)
    all_goals exact rfl
  clear h; intro hb h; conv => whnf
  replace h := oreq.elim h; have hb := h.1; replace h := h.2
  first | (refine req.intro hb ?_; conv => whnf) | skip
  obtain ⟨b, hy, h2⟩ := obind.elim h; clear h; have h := h2; clear h2
  refine rdS.intro hy ?_
  conv => whnf
  let t : Int := wI .i64 ((wI .i64 (b.toNat : Int)) * 2 ^ 8)
  let t1 : Bool := decide ((wI .i64 (xat + 1)) < (s.length : Int))
  refine br.h2 h ?_ ?_ ?_
  · rfl
  · clear h; intro hb h; conv => whnf
    obtain ⟨f1, hy, h2⟩ := obind.elim h; clear h; have h := h2; clear h2
    refine sumK.introF [] (sumRun_of (aqs := [.v (.int .i64 (wI .i64 (n + t)))]) (ra_cons rfl ra_nil) (r63_eq hy) rfl rfl rfl rfl) ?_
    conv => whnf
    cases h; simp only [Sum.elim_inl, Sum.elim_inr, head29_1] at hc
    refine Leads.re hc [(0, 0), (1, 1), (2, 2), (3, 3)] rfl ?_ ?_ (hu := by repeat' first | exact trivial | refine ⟨⟨rfl, rfl, rfl, rfl, rfl, ?_, rfl, rfl⟩, ?_⟩ | refine ⟨⟨_, rfl, rfl⟩, ?_⟩) <;> (repeat' first | exact trivial | refine ⟨⟨_, rfl, rfl⟩, ?_⟩ | refine ⟨⟨_, _, rfl, rfl, .rowF (vI_flat _ _) id⟩, ?_⟩ | refine ⟨⟨_, _, rfl, rfl, .rowF (vS_flat _) id⟩, ?_⟩ | refine ⟨⟨_, _, rfl, rfl, .rowF (vB_flat _) id⟩, ?_⟩ | refine ⟨⟨_, _, rfl, rfl, .cells rfl⟩, ?_⟩ | refine ⟨⟨_, _, rfl, rfl, .row rfl id⟩, ?_⟩ | refine ⟨⟨_, _, rfl, rfl, .cr rfl⟩, ?_⟩ | refine ⟨⟨_, _, rfl, rfl, .rc rfl⟩, ?_⟩ | refine ⟨⟨_, _, rfl, rfl, .marks⟩, ?_⟩ | refine ⟨⟨_, _, rfl, rfl, .siter _ _⟩, ?_⟩ | refine ⟨⟨_, _, rfl, rfl, .loop rfl rfl rfl rfl (by repeat' first | exact trivial | refine ⟨rfl, ?_⟩) rfl rfl rfl rfl⟩, ?_⟩)
  clear h; intro hb h; conv => whnf
  replace h := oreq.elim h; have hb := h.1; replace h := h.2
  first | (refine req.intro hb ?_; conv => whnf) | skip
  obtain ⟨b1, hy, h2⟩ := obind.elim h; clear h; have h := h2; clear h2
  refine rdS.intro hy ?_
  conv => whnf
  let t2 : Int := wI .i64 (n + (iorI .i64 t (wI .i64 (b1.toNat : Int))))
  obtain ⟨f, hy, h2⟩ := obind.elim h; clear h; have h := h2; clear h2
  refine sumK.introF [] (sumRun_of (aqs := [.v (.int .i64 t2)]) (ra_cons rfl ra_nil) (r63_eq hy) rfl rfl rfl rfl) ?_
  conv => whnf
  cases h; simp only [Sum.elim_inl, Sum.elim_inr, head29_1] at hc
  refine Leads.re hc [(0, 0), (1, 1), (2, 2), (3, 3)] rfl ?_ ?_ (hu := by repeat' first | exact trivial | refine ⟨⟨rfl, rfl, rfl, rfl, rfl, ?_, rfl, rfl⟩, ?_⟩ | refine ⟨⟨_, rfl, rfl⟩, ?_⟩) <;> (repeat' first | exact trivial | refine ⟨⟨_, rfl, rfl⟩, ?_⟩ | refine ⟨⟨_, _, rfl, rfl, .rowF (vI_flat _ _) id⟩, ?_⟩ | refine ⟨⟨_, _, rfl, rfl, .rowF (vS_flat _) id⟩, ?_⟩ | refine ⟨⟨_, _, rfl, rfl, .rowF (vB_flat _) id⟩, ?_⟩ | refine ⟨⟨_, _, rfl, rfl, .cells rfl⟩, ?_⟩ | refine ⟨⟨_, _, rfl, rfl, .row rfl id⟩, ?_⟩ | refine ⟨⟨_, _, rfl, rfl, .cr rfl⟩, ?_⟩ | refine ⟨⟨_, _, rfl, rfl, .rc rfl⟩, ?_⟩ | refine ⟨⟨_, _, rfl, rfl, .marks⟩, ?_⟩ | refine ⟨⟨_, _, rfl, rfl, .siter _ _⟩, ?_⟩ | refine ⟨⟨_, _, rfl, rfl, .loop rfl rfl rfl rfl (by repeat' first | exact trivial | refine ⟨rfl, ?_⟩) rfl rfl rfl rfl⟩, ?_⟩)
theorem leads29 (check_fold : Int → Option Int) (hS : SumsOK Try.prog (aget (sums29 check_fold))) (s : List UInt8) (res : Int) (h : check_SumF check_fold s = some res) :
    Leads Try.prog 29 0 ⟨⟨29, 13, [(0, .string ⟨⟨s⟩⟩)], [.code k29_13], [], false, none⟩, [], [], 0⟩ (fun v H _ => post29 res v H) := by
  unfold check_SumF at h
  refine ev_ok tab_ok hS true 3000 ?_
  conv => whnf
  have hl := loop29_1 check_fold hS _ res _ _ _ h rfl; simp only [head29_1] at hl
  refine Leads.re hl [(0, 0), (1, 1), (2, 2), (3, 3)] rfl ?_ ?_ (hu := by repeat' first | exact trivial | refine ⟨⟨rfl, rfl, rfl, rfl, rfl, ?_, rfl, rfl⟩, ?_⟩ | refine ⟨⟨_, rfl, rfl⟩, ?_⟩) <;> (repeat' first | exact trivial | refine ⟨⟨_, rfl, rfl⟩, ?_⟩ | refine ⟨⟨_, _, rfl, rfl, .rowF (vI_flat _ _) id⟩, ?_⟩ | refine ⟨⟨_, _, rfl, rfl, .rowF (vS_flat _) id⟩, ?_⟩ | refine ⟨⟨_, _, rfl, rfl, .rowF (vB_flat _) id⟩, ?_⟩ | refine ⟨⟨_, _, rfl, rfl, .cells rfl⟩, ?_⟩ | refine ⟨⟨_, _, rfl, rfl, .row rfl id⟩, ?_⟩ | refine ⟨⟨_, _, rfl, rfl, .cr rfl⟩, ?_⟩ | refine ⟨⟨_, _, rfl, rfl, .rc rfl⟩, ?_⟩ | refine ⟨⟨_, _, rfl, rfl, .marks⟩, ?_⟩ | refine ⟨⟨_, _, rfl, rfl, .siter _ _⟩, ?_⟩ | refine ⟨⟨_, _, rfl, rfl, .loop rfl rfl rfl rfl (by repeat' first | exact trivial | refine ⟨rfl, ?_⟩) rfl rfl rfl rfl⟩, ?_⟩)
theorem ok29 (check_fold : Int → Option Int) (hS : SumsOK Try.prog (aget (sums29 check_fold))) : SumOK Try.prog 29 (s29 (check_SumF check_fold)) := by
  refine SumOK.of_leads tab_ok (fun ar r ha hr => ?_) ⟨Try.f29, rfl, by decide, rfl⟩
  simp only [s29] at ha hr
  unfold r29 at hr
  split at hr <;> try (cases hr; done)
  split at hr <;> cases hr
  rename_i x h
  refine ⟨_, rfl, (leads29 check_fold hS _ x h).mono fun v H t hp => ?_⟩
  cases hp
  exact Res.val rfl trivial
def check_Sum : (List UInt8) → Option Int := check_SumF check_fold
theorem lift29 : SumOK Try.prog 29 (s29 check_Sum) := ok29 check_fold (SumsOK.of_tab ⟨lift63, trivial⟩)
end Go.Vm.Code

/- The sums of chapter 3, in plain words. -/

namespace Go.Vm.Code
open Go Go.Vm

/-- words of two bytes, added -/
def wsum : List UInt8 → Nat
  | [] => 0
  | [b] => b.toNat * 256
  | b :: c :: l => b.toNat * 256 + c.toNat + wsum l
/-- a sum brought to 16 bits -/
def norm (n : Nat) : Nat := if n = 0 then 0 else (n - 1) % 65535 + 1
theorem norm_eq {n r : Nat} (h1 : r ≤ 65535) (h2 : r % 65535 = n % 65535) (h3 : r = 0 ↔ n = 0) : norm n = r := by unfold norm; split <;> omega
theorem norm_le (n : Nat) : norm n ≤ 65535 := by unfold norm; split <;> omega
theorem norm_mod (n : Nat) : norm n % 65535 = n % 65535 := by unfold norm; split <;> omega
theorem norm_zero (n : Nat) : norm n = 0 ↔ n = 0 := by unfold norm; split <;> omega
theorem norm_same {n : Nat} (h : n ≤ 65535) : norm n = n := norm_eq h rfl Iff.rfl
theorem norm_add (a b : Nat) : norm (norm a + b) = norm (a + b) :=
  (norm_eq (norm_le _) (by have h1 := norm_mod a; have h2 := norm_mod (norm a + b); omega) (by have h1 := norm_zero a; have h2 := norm_zero (norm a + b); omega)).symm

theorem fold_eq {n : Int} (h0 : 0 ≤ n) (h1 : n < 2 ^ 62) : check_fold n = some ((norm n.toNat : Nat) : Int) := by
  unfold check_fold check_foldF
  refine iter_eq (fun n => ((norm n.toNat : Nat) : Int)) (fun n => 0 ≤ n ∧ n < 2 ^ 62) (fun n => n.toNat) ?_ FUEL _ ⟨h0, h1⟩ (by rw [FUEL_eq]; omega)
  intro s ⟨a, b⟩
  unfold check_fold_s1
  by_cases hs : s > 65535
  · refine .inr ⟨s % 65536 + s / 65536, ?_, ⟨by omega, by omega⟩, by omega, ?_⟩
    · rw [cond_p hs, andI64_mask (m := 65535) 16 (by decide) (by decide) a (by omega), fdivP, wI64 (by omega) (by omega)]; rfl
    · have : norm (s % 65536 + s / 65536).toNat = norm s.toNat :=
        (norm_eq (norm_le _) (by have := norm_mod (s % 65536 + s / 65536).toNat; omega) (by have := norm_zero (s % 65536 + s / 65536).toNat; omega)).symm
      rw [this]
  · refine .inl ?_
    rw [cond_n hs]
    have := norm_same (n := s.toNat) (by omega)
    simp only [this]
    rw [Int.toNat_of_nonneg a]

theorem wsum_two {s : List UInt8} {i : Nat} (h : i + 1 < s.length) : wsum (s.drop i) = s[i].toNat * 256 + s[i + 1].toNat + wsum (s.drop (i + 2)) := by
  rw [List.drop_eq_getElem_cons (by omega : i < s.length), List.drop_eq_getElem_cons h]; rfl
theorem wsum_one {s : List UInt8} {i : Nat} (h : i + 1 = s.length) : wsum (s.drop i) = s[i].toNat * 256 := by
  rw [List.drop_eq_getElem_cons (by omega : i < s.length), List.drop_eq_nil_of_le (by omega)]; rfl
theorem wsum_none {s : List UInt8} {i : Nat} (h : s.length ≤ i) : wsum (s.drop i) = 0 := by
  rw [List.drop_eq_nil_of_le h]; rfl

theorem sum_eq (s : List UInt8) (h : s.length < 2 ^ 61) : check_Sum s = some ((norm (wsum s) : Nat) : Int) := by
  unfold check_Sum check_SumF
  have key := iter_eq (step := fun (st : Int × Int) => check_Sum_s1 check_fold s st.1 st.2) (fun (st : Int × Int) => ((norm (st.2.toNat + wsum (s.drop st.1.toNat)) : Nat) : Int)) (fun (st : Int × Int) => 0 ≤ st.1 ∧ st.1 ≤ s.length + 1 ∧ 0 ≤ st.2 ∧ st.2 ≤ 65535) (fun (st : Int × Int) => (s.length + 2 - st.1).toNat) ?_ FUEL (0, 0) ⟨by simp, by simp; omega, by simp, by simp⟩ (by rw [FUEL_eq]; simp only; omega)
  · rw [key]; simp
  rintro ⟨p, n⟩ ⟨h1, h2, h3, h4⟩
  simp only at h1 h2 h3 h4 ⊢
  obtain ⟨i, rfl⟩ := Int.eq_ofNat_of_zero_le h1
  obtain ⟨m, rfl⟩ := Int.eq_ofNat_of_zero_le h3
  unfold check_Sum_s1
  by_cases hp : i < s.length
  · by_cases hq : i + 1 < s.length
    · have b1 := s[i].toNat_lt
      have b2 := s[i + 1].toNat_lt
      refine .inr ⟨(((i + 2 : Nat) : Int), ((norm (m + (s[i].toNat * 256 + s[i + 1].toNat)) : Nat) : Int)), ?_, ⟨by simp only; omega, by simp only; omega, by simp only; omega, by simp only; have := norm_le (m + (s[i].toNat * 256 + s[i + 1].toNat)); omega⟩, by simp only; omega, ?_⟩
      · simp (disch := omega) only [wI64, oreq_p, cond_p]
        have e : ((i : Int) + 1).toNat = i + 1 := by omega
        rw [e]
        simp (disch := omega) only [Int.toNat_natCast, List.getElem?_eq_getElem, Option.bind_some, iorI64_low, wI64, fold_eq]
        congr 3 <;> omega
      · simp only [Int.toNat_natCast]
        rw [norm_add, wsum_two hq, Nat.add_assoc]
    · have b1 := s[i].toNat_lt
      refine .inr ⟨(((i + 2 : Nat) : Int), ((norm (m + s[i].toNat * 256) : Nat) : Int)), ?_, ⟨by simp only; omega, by simp only; omega, by simp only; omega, by simp only; have := norm_le (m + s[i].toNat * 256); omega⟩, by simp only; omega, ?_⟩
      · simp (disch := omega) only [wI64, oreq_p, cond_p, cond_n, Int.toNat_natCast, List.getElem?_eq_getElem, Option.bind_some, fold_eq]
        congr 3 <;> omega
      · simp only [Int.toNat_natCast]
        rw [norm_add, wsum_none (i := i + 2) (by omega), Nat.add_zero, wsum_one (i := i) (by omega)]
  · refine .inl ?_
    simp (disch := omega) only [cond_n]
    simp only [Int.toNat_natCast]
    rw [wsum_none (by omega), Nat.add_zero, norm_same (by omega)]
end Go.Vm.Code

/- Numbers as bytes, the highest one first: plain Lean, no program. -/
namespace Go.Vm
open Go

/-- the lowest bytes of a number, the highest one first -/
def be (n : Nat) : Nat → List UInt8
  | 0 => []
  | r + 1 => UInt8.ofNat (n / 256 ^ r) :: be n r
/-- the number of bytes -/
def valL (l : List UInt8) : Nat := l.foldl (fun n b => n * 256 + b.toNat) 0

@[simp] theorem be_len (n : Nat) : ∀ k, (be n k).length = k
  | 0 => rfl
  | k + 1 => by simp [be, be_len n k]
theorem be_snoc (n : Nat) : ∀ k, be n (k + 1) = be (n / 256) k ++ [UInt8.ofNat n]
  | 0 => by simp [be]
  | k + 1 => by
    rw [be, be_snoc n k, be, Nat.div_div_eq_div_mul, Nat.pow_succ, Nat.mul_comm 256]; rfl
theorem be_mod (n : Nat) : ∀ k, be (n % 256 ^ k) k = be n k
  | 0 => rfl
  | k + 1 => by
    rw [be_snoc, be_snoc, Nat.pow_succ, Nat.mul_comm, Nat.mod_mul_right_div_self, be_mod (n / 256) k]
    congr 2
    apply UInt8.toNat_inj.1
    simp only [UInt8.toNat_ofNat']
    rw [Nat.mod_mul_right_mod]
theorem val_foldl (l : List UInt8) : ∀ n : Nat, l.foldl (fun n b => n * 256 + b.toNat) n = n * 256 ^ l.length + valL l := by
  induction l with
  | nil => intro n; simp [valL]
  | cons b l ih =>
    intro n
    rw [valL, List.foldl_cons, ih, List.foldl_cons, ih, List.length_cons, Nat.pow_succ]
    rw [Nat.zero_mul, Nat.zero_add, Nat.add_mul, Nat.mul_assoc, Nat.mul_comm (256 ^ _) 256, Nat.add_assoc]
@[simp] theorem val_nil : valL [] = 0 := rfl
theorem val_cons (b : UInt8) (l : List UInt8) : valL (b :: l) = b.toNat * 256 ^ l.length + valL l := by
  rw [valL, List.foldl_cons, val_foldl]; simp
theorem val_append (l m : List UInt8) : valL (l ++ m) = valL l * 256 ^ m.length + valL m := by
  rw [valL, List.foldl_append, val_foldl]; rfl
theorem val_snoc (l : List UInt8) (b : UInt8) : valL (l ++ [b]) = valL l * 256 + b.toNat := by
  rw [val_append]; simp [val_cons]
theorem val_lt : ∀ l : List UInt8, valL l < 256 ^ l.length
  | [] => by simp
  | b :: l => by
    have h := val_lt l
    have hb := b.toNat_lt
    rw [val_cons, List.length_cons, Nat.pow_succ]
    have : b.toNat * 256 ^ l.length + 256 ^ l.length ≤ 256 * 256 ^ l.length := by
      rw [← Nat.succ_mul]; exact Nat.mul_le_mul_right _ (by omega)
    rw [Nat.mul_comm (256 ^ l.length)]; omega
theorem val_be (n : Nat) : ∀ k, valL (be n k) = n % 256 ^ k
  | 0 => by simp [be, Nat.mod_one]
  | k + 1 => by
    have e : n % 256 ^ (k + 1) = n % 256 + 256 * (n / 256 % 256 ^ k) := by rw [Nat.pow_succ', Nat.mod_mul]
    rw [be_snoc, val_snoc, val_be (n / 256) k, UInt8.toNat_ofNat', e]
    generalize n / 256 % 256 ^ k = x
    omega
theorem val_be_lt {n k : Nat} (h : n < 256 ^ k) : valL (be n k) = n := by rw [val_be, Nat.mod_eq_of_lt h]
theorem be_val : ∀ l : List UInt8, be (valL l) l.length = l
  | [] => rfl
  | b :: l => by
    have h := val_lt l
    rw [List.length_cons, be]
    have e1 : valL (b :: l) / 256 ^ l.length = b.toNat := by
      rw [val_cons, Nat.mul_comm, Nat.mul_add_div (Nat.pow_pos (by decide)), Nat.div_eq_of_lt h, Nat.add_zero]
    have e2 : be (valL (b :: l)) l.length = be (valL l) l.length := by
      rw [← be_mod (valL (b :: l)), val_cons, Nat.mul_add_mod', be_mod]
    rw [e1, e2, be_val l]
    simp
theorem be_inj {n m k : Nat} (hn : n < 256 ^ k) (hm : m < 256 ^ k) (h : be n k = be m k) : n = m := by
  rw [← val_be_lt hn, ← val_be_lt hm, h]
theorem be_val' {l : List UInt8} {k : Nat} (h : l.length = k) : be (valL l) k = l := by subst h; exact be_val l
end Go.Vm

namespace Go.Vm.Code
open Go Go.Vm Go.Proofs
set_option maxRecDepth 100000
set_option maxHeartbeats 4000000
set_option linter.unusedVariables false

/-! cloakroom/octet.Put -/
def octet_Put_s1 (n : Int) (k : Int) (t17 : Int) (b : List Int) : Option (Sum (Int × (List Int)) (List UInt8)) :=
  cond (decide (t17 < (k.toNat : Int)))
    (
    let t := wI .i64 (8 * (wI .i64 ((wI .i64 (k - 1)) - t17)))
    oreq (decide (0 ≤ t)) <|
    oreq (decide ((0 : Int) ≤ t17 ∧ t17 < (k.toNat : Int))) <|
    oreq (decide (t17.toNat < b.length)) <|
    let row := b.set t17.toNat (wI .u8 (n.fdiv (2 ^ (min t.toNat 64))))
    some (.inl (wI .i64 (t17 + 1), row)))
    (
    oreq (decide (k.toNat ≤ b.length)) <|
    some (.inr (iB (b.take k.toNat))))
def octet_PutF (n : Int) (k : Int) : Option (List UInt8) :=
  cond (decide (k < 1))
    (
    some ([]))
    (
    cond (decide (k > 8))
      (
      some ([]))
      (
      oreq (decide (0 ≤ k ∧ k ≤ k ∧ k < 2 ^ 63 ∧ (1 : Int) * k ≤ 2 ^ 48)) <|
      iter (fun st => octet_Put_s1 n k st.1 st.2) FUEL (0, List.replicate k.toNat 0)))
def post74 (x : List UInt8) (v : Value) (H : Hp) : Prop := v = .string ⟨⟨x⟩⟩
def r74 (g : Int → Int → Option (List UInt8)) : List SArg → Option SRes
  | [.v (.int .u64 a0_1), .v (.int .i64 a1_1)] => match g a0_1 a1_1 with | some x => some ⟨.string ⟨⟨x⟩⟩, [], []⟩ | none => none
  | _ => none
def s74 (g : Int → Int → Option (List UInt8)) : Summ := ⟨[.v, .v], r74 g⟩
theorem r74_eq {g : Int → Int → Option (List UInt8)} {a0_1 : Int} {a1_1 : Int} {x : List UInt8} (hx : g a0_1 a1_1 = some x) : (s74 g).run [.v (.int .u64 a0_1), .v (.int .i64 a1_1)] = some ⟨.string ⟨⟨x⟩⟩, [], []⟩ := by
  show r74 g [.v (.int .u64 a0_1), .v (.int .i64 a1_1)] = _
  simp only [r74, hx]
abbrev sums74 : List (Nat × Summ) := []
def head74_1 (n : Int) (k : Int) (t17 : Int) (b : List Int) : VM :=
  ⟨⟨74, 34, [(0, .int .u64 n), (1, .int .i64 k), (5, .slice (some ⟨0, 0, none⟩) k.toNat 1), (16, .int .i64 (k.toNat : Int)), (17, .int .i64 t17)], [.code k74_17, .inLoop k74_17, .inBlock 0, .code k74_22], [], false, none⟩, [], [(0, .row true (vI .u8 b))], 1⟩
theorem loop74_1 (hS : SumsOK Try.prog (aget (sums74))) (n : Int) (k : Int) (res : List UInt8) : ∀ fuel (st : Int × (List Int)) (o : List UInt8), iter (fun st => octet_Put_s1 n k st.1 st.2) fuel st = some o → (o = res) →
    Leads Try.prog 74 0 (head74_1 n k st.1 st.2) (fun v H _ => post74 res v H) := by
  intro fuel st o h hc
  refine iter_leads (head := fun st => head74_1 n k st.1 st.2) (C := fun o => (o = res)) ?_ fuel st o h hc
  clear h hc o st fuel
  intro st o h hc
  obtain ⟨t17, b⟩ := st
  replace h : octet_Put_s1 n k t17 b = some o := h
  show Leads Try.prog 74 0 (head74_1 n k t17 b) (fun v H _ => post74 res v H)
  unfold octet_Put_s1 at h
  refine ev_ok tab_ok hS true 3000 ?_
  conv => whnf
  refine br.h2 h ?_ ?_ ?_
  · rfl
  · clear h; intro hb h; conv => whnf
    replace h := oreq.elim h; have hb := h.1; replace h := h.2
    refine req.intro (by (first | rfl | (simp [vI, vB, vS, bI, oneC, addrBlk, cellsL, Value.cells] at *; omega) | (simp [vI, vB, vS, bI, oneC, addrBlk, cellsL, Value.cells] at *; done))) ?_
    conv => whnf
    refine pk_b2s ?_
    conv => whnf
    all_goals (cases h; cases hc)
    all_goals exact rfl
  clear h; intro hb h; conv => whnf
  let t : Int := wI .i64 (8 * (wI .i64 ((wI .i64 (k - 1)) - t17)))
  replace h := oreq.elim h; have hb := h.1; replace h := h.2
  first | (refine req.intro hb ?_; conv => whnf) | skip
  replace h := oreq.elim h; have hb := h.1; replace h := h.2
  first | (refine req.intro hb ?_; conv => whnf) | skip
  replace h := oreq.elim h; have hb := h.1; replace h := h.2
  refine st_I hb (by first | rfl | (rw [Nat.zero_add, Nat.mul_one]; done) | omega) ?_
  conv => whnf
  let row : List Int := b.set t17.toNat (wI .u8 (n.fdiv (2 ^ (min t.toNat 64))))
  cases h; simp only [Sum.elim_inl, Sum.elim_inr, head74_1] at hc
  refine Leads.re hc [(0, 0)] rfl ?_ ?_ <;> (repeat' first | exact trivial | refine ⟨⟨_, rfl, rfl⟩, ?_⟩ | refine ⟨⟨_, _, rfl, rfl, .rowF (vI_flat _ _) id⟩, ?_⟩ | refine ⟨⟨_, _, rfl, rfl, .rowF (vS_flat _) id⟩, ?_⟩ | refine ⟨⟨_, _, rfl, rfl, .rowF (vB_flat _) id⟩, ?_⟩ | refine ⟨⟨_, _, rfl, rfl, .cells rfl⟩, ?_⟩ | refine ⟨⟨_, _, rfl, rfl, .row rfl id⟩, ?_⟩ | refine ⟨⟨_, _, rfl, rfl, .cr rfl⟩, ?_⟩ | refine ⟨⟨_, _, rfl, rfl, .rc rfl⟩, ?_⟩ | refine ⟨⟨_, _, rfl, rfl, .marks⟩, ?_⟩ | refine ⟨⟨_, _, rfl, rfl, .siter _ _⟩, ?_⟩ | refine ⟨⟨_, _, rfl, rfl, .loop rfl rfl rfl rfl (by repeat' first | exact trivial | refine ⟨rfl, ?_⟩) rfl rfl rfl rfl⟩, ?_⟩)
theorem leads74 (hS : SumsOK Try.prog (aget (sums74))) (n : Int) (k : Int) (res : List UInt8) (h : octet_PutF n k = some res) :
    Leads Try.prog 74 0 ⟨⟨74, 34, [(0, .int .u64 n), (1, .int .i64 k)], [.code k74_26], [], false, none⟩, [], [], 0⟩ (fun v H _ => post74 res v H) := by
  unfold octet_PutF at h
  refine ev_ok tab_ok hS true 3000 ?_
  conv => whnf
  refine br.h h ?_ ?_ ?_
  · rfl
  · clear h; intro hb h; conv => whnf
    all_goals (cases h)
    all_goals exact rfl
  clear h; intro hb h; conv => whnf
  refine br.h h ?_ ?_ ?_
  · rfl
  · clear h; intro hb h; conv => whnf
    all_goals (cases h)
    all_goals exact rfl
  clear h; intro hb h; conv => whnf
  replace h := oreq.elim h; have hb := h.1; replace h := h.2
  first | (refine req.intro hb ?_; conv => whnf) | skip
  refine pk_mkI ?_
  conv => whnf
  have hl := loop74_1 hS _ _ res _ _ _ h rfl; simp only [head74_1] at hl
  refine Leads.re hl [(0, 0)] rfl ?_ ?_ <;> (repeat' first | exact trivial | refine ⟨⟨_, rfl, rfl⟩, ?_⟩ | refine ⟨⟨_, _, rfl, rfl, .rowF (vI_flat _ _) id⟩, ?_⟩ | refine ⟨⟨_, _, rfl, rfl, .rowF (vS_flat _) id⟩, ?_⟩ | refine ⟨⟨_, _, rfl, rfl, .rowF (vB_flat _) id⟩, ?_⟩ | refine ⟨⟨_, _, rfl, rfl, .cells rfl⟩, ?_⟩ | refine ⟨⟨_, _, rfl, rfl, .row rfl id⟩, ?_⟩ | refine ⟨⟨_, _, rfl, rfl, .cr rfl⟩, ?_⟩ | refine ⟨⟨_, _, rfl, rfl, .rc rfl⟩, ?_⟩ | refine ⟨⟨_, _, rfl, rfl, .marks⟩, ?_⟩ | refine ⟨⟨_, _, rfl, rfl, .siter _ _⟩, ?_⟩ | refine ⟨⟨_, _, rfl, rfl, .loop rfl rfl rfl rfl (by repeat' first | exact trivial | refine ⟨rfl, ?_⟩) rfl rfl rfl rfl⟩, ?_⟩)
theorem ok74 (hS : SumsOK Try.prog (aget (sums74))) : SumOK Try.prog 74 (s74 (octet_PutF)) := by
  refine SumOK.of_leads tab_ok (fun ar r ha hr => ?_) ⟨Try.f74, rfl, by decide, rfl⟩
  simp only [s74] at ha hr
  unfold r74 at hr
  split at hr <;> try (cases hr; done)
  split at hr <;> cases hr
  rename_i x h
  refine ⟨_, rfl, (leads74 hS _ _ x h).mono fun v H t hp => ?_⟩
  cases hp
  exact Res.val rfl trivial
def octet_Put : Int → Int → Option (List UInt8) := octet_PutF
theorem lift74 : SumOK Try.prog 74 (s74 octet_Put) := ok74 (SumsOK.of_tab trivial)
end Go.Vm.Code

namespace Go.Vm.Code
open Go Go.Vm Go.Proofs
set_option maxRecDepth 100000
set_option maxHeartbeats 4000000
set_option linter.unusedVariables false

/-! cloakroom/octet.Get -/
def octet_Get_s1 (t1 : List UInt8) (n : Int) (t37 : Int) : Option (Sum (Int × Int) (Int × Bool)) :=
  cond (decide (t37 < (t1.length : Int)))
    (
    oreq (decide ((0 : Int) ≤ t37 ∧ t37 < (t1.length : Int))) <|
    ((bI t1)[t37.toNat]?).bind fun (e : Int) =>
    let t2 := iorI .u64 (wI .u64 (n * 2 ^ 8)) (wI .u64 e)
    some (.inl (t2, wI .i64 (t37 + 1))))
    (
    some (.inr ((n, true))))
def octet_GetF (s : List UInt8) (ata1 : Int) (k : Int) : Option (Int × Bool) :=
  cond (decide (k < 1))
    (
    some ((0, false)))
    (
    cond (decide (k > 8))
      (
      some ((0, false)))
      (
      cond (decide (ata1 < 0))
        (
        some ((0, false)))
        (
        let t := decide ((wI .i64 ((s.length : Int) - k)) < ata1)
        cond (t)
          (
          some ((0, false)))
          (
          oreq (decide ((0 : Int) ≤ (wI .i64 (ata1 + k)) ∧ (wI .i64 (ata1 + k)) ≤ (s.length : Int) ∧ (0 : Int) ≤ ata1 ∧ ata1 ≤ ((wI .i64 (ata1 + k)).toNat : Int))) <|
          let t1 := (s.drop ata1.toNat).take ((wI .i64 (ata1 + k)).toNat - ata1.toNat)
          iter (fun st => octet_Get_s1 t1 st.1 st.2) FUEL (0, 0)))))
def post73 (x : Int × Bool) (v : Value) (H : Hp) : Prop := v = .tuple ⟨[.int .u64 x.1, .bool x.2]⟩
def r73 (g : (List UInt8) → Int → Int → Option (Int × Bool)) : List SArg → Option SRes
  | [.v (.string ⟨⟨a0_1⟩⟩), .v (.int .i64 a1_1), .v (.int .i64 a2_1)] => match g a0_1 a1_1 a2_1 with | some x => some ⟨.tuple ⟨[.int .u64 x.1, .bool x.2]⟩, [], []⟩ | none => none
  | _ => none
def s73 (g : (List UInt8) → Int → Int → Option (Int × Bool)) : Summ := ⟨[.v, .v, .v], r73 g⟩
theorem r73_eq {g : (List UInt8) → Int → Int → Option (Int × Bool)} {a0_1 : List UInt8} {a1_1 : Int} {a2_1 : Int} {x : Int × Bool} (hx : g a0_1 a1_1 a2_1 = some x) : (s73 g).run [.v (.string ⟨⟨a0_1⟩⟩), .v (.int .i64 a1_1), .v (.int .i64 a2_1)] = some ⟨.tuple ⟨[.int .u64 x.1, .bool x.2]⟩, [], []⟩ := by
  show r73 g [.v (.string ⟨⟨a0_1⟩⟩), .v (.int .i64 a1_1), .v (.int .i64 a2_1)] = _
  simp only [r73, hx]
abbrev sums73 : List (Nat × Summ) := []
def head73_1 (t1 : List UInt8) (n : Int) (t37 : Int) : VM :=
  ⟨⟨73, 48, [(8, .int .u64 n), (35, .slice (some ⟨0, 0, none⟩) t1.length 1), (36, .int .i64 (t1.length : Int)), (37, .int .i64 t37)], [.code k73_17, .inLoop k73_17, .inBlock 0, .code k73_22], [], false, none⟩, [], [(0, .row true (vI .u8 (bI t1)))], 1⟩
theorem loop73_1 (hS : SumsOK Try.prog (aget (sums73))) (t1 : List UInt8) (res : Int × Bool) : ∀ fuel (st : Int × Int) (o : Int × Bool), iter (fun st => octet_Get_s1 t1 st.1 st.2) fuel st = some o → (o = res) →
    Leads Try.prog 73 0 (head73_1 t1 st.1 st.2) (fun v H _ => post73 res v H) := by
  intro fuel st o h hc
  refine iter_leads (head := fun st => head73_1 t1 st.1 st.2) (C := fun o => (o = res)) ?_ fuel st o h hc
  clear h hc o st fuel
  intro st o h hc
  obtain ⟨n, t37⟩ := st
  replace h : octet_Get_s1 t1 n t37 = some o := h
  show Leads Try.prog 73 0 (head73_1 t1 n t37) (fun v H _ => post73 res v H)
  unfold octet_Get_s1 at h
  refine ev_ok tab_ok hS true 3000 ?_
  conv => whnf
  refine br.h2 h ?_ ?_ ?_
  · rfl
  · clear h; intro hb h; conv => whnf
    all_goals (cases h; cases hc)
    all_goals exact rfl
  clear h; intro hb h; conv => whnf
  replace h := oreq.elim h; have hb := h.1; replace h := h.2
  first | (refine req.intro hb ?_; conv => whnf) | skip
  obtain ⟨e, hy, h2⟩ := obind.elim h; clear h; have h := h2; clear h2
  refine rd.I hy (by first | rfl | (rw [Nat.zero_add, Nat.mul_one]; done) | omega) ?_
  conv => whnf
  let t2 : Int := iorI .u64 (wI .u64 (n * 2 ^ 8)) (wI .u64 e)
  cases h; simp only [Sum.elim_inl, Sum.elim_inr, head73_1] at hc
  refine Leads.re hc [(0, 0)] rfl ?_ ?_ <;> (repeat' first | exact trivial | refine ⟨⟨_, rfl, rfl⟩, ?_⟩ | refine ⟨⟨_, _, rfl, rfl, .rowF (vI_flat _ _) id⟩, ?_⟩ | refine ⟨⟨_, _, rfl, rfl, .rowF (vS_flat _) id⟩, ?_⟩ | refine ⟨⟨_, _, rfl, rfl, .rowF (vB_flat _) id⟩, ?_⟩ | refine ⟨⟨_, _, rfl, rfl, .cells rfl⟩, ?_⟩ | refine ⟨⟨_, _, rfl, rfl, .row rfl id⟩, ?_⟩ | refine ⟨⟨_, _, rfl, rfl, .cr rfl⟩, ?_⟩ | refine ⟨⟨_, _, rfl, rfl, .rc rfl⟩, ?_⟩ | refine ⟨⟨_, _, rfl, rfl, .marks⟩, ?_⟩ | refine ⟨⟨_, _, rfl, rfl, .siter _ _⟩, ?_⟩ | refine ⟨⟨_, _, rfl, rfl, .loop rfl rfl rfl rfl (by repeat' first | exact trivial | refine ⟨rfl, ?_⟩) rfl rfl rfl rfl⟩, ?_⟩)
theorem leads73 (hS : SumsOK Try.prog (aget (sums73))) (s : List UInt8) (ata1 : Int) (k : Int) (res : Int × Bool) (h : octet_GetF s ata1 k = some res) :
    Leads Try.prog 73 0 ⟨⟨73, 48, [(0, .string ⟨⟨s⟩⟩), (1, .int .i64 ata1), (2, .int .i64 k)], [.code k73_26], [], false, none⟩, [], [], 0⟩ (fun v H _ => post73 res v H) := by
  unfold octet_GetF at h
  refine ev_ok tab_ok hS true 3000 ?_
  conv => whnf
  refine br.h h ?_ ?_ ?_
  · rfl
  · clear h; intro hb h; conv => whnf
    all_goals (cases h)
    all_goals exact rfl
  clear h; intro hb h; conv => whnf
  refine br.h h ?_ ?_ ?_
  · rfl
  · clear h; intro hb h; conv => whnf
    all_goals (cases h)
    all_goals exact rfl
  clear h; intro hb h; conv => whnf
  refine br.h h ?_ ?_ ?_
  · rfl
  · clear h; intro hb h; conv => whnf
    all_goals (cases h)
    all_goals exact rfl
  clear h; intro hb h; conv => whnf
  let t : Bool := decide ((wI .i64 ((s.length : Int) - k)) < ata1)
  refine br.h h ?_ ?_ ?_
  · rfl
  · clear h; intro hb h; conv => whnf
    all_goals (cases h)
    all_goals exact rfl
  clear h; intro hb h; conv => whnf
  replace h := oreq.elim h; have hb := h.1; replace h := h.2
  first | (refine req.intro hb ?_; conv => whnf) | skip
  let t1 : List UInt8 := (s.drop ata1.toNat).take ((wI .i64 (ata1 + k)).toNat - ata1.toNat)
  refine pk_s2b ?_
  conv => whnf
  have hl := loop73_1 hS _ res _ _ _ h rfl; simp only [head73_1] at hl
  refine Leads.re hl [(0, 0)] rfl ?_ ?_ <;> (repeat' first | exact trivial | refine ⟨⟨_, rfl, rfl⟩, ?_⟩ | refine ⟨⟨_, _, rfl, rfl, .rowF (vI_flat _ _) id⟩, ?_⟩ | refine ⟨⟨_, _, rfl, rfl, .rowF (vS_flat _) id⟩, ?_⟩ | refine ⟨⟨_, _, rfl, rfl, .rowF (vB_flat _) id⟩, ?_⟩ | refine ⟨⟨_, _, rfl, rfl, .cells rfl⟩, ?_⟩ | refine ⟨⟨_, _, rfl, rfl, .row rfl id⟩, ?_⟩ | refine ⟨⟨_, _, rfl, rfl, .cr rfl⟩, ?_⟩ | refine ⟨⟨_, _, rfl, rfl, .rc rfl⟩, ?_⟩ | refine ⟨⟨_, _, rfl, rfl, .marks⟩, ?_⟩ | refine ⟨⟨_, _, rfl, rfl, .siter _ _⟩, ?_⟩ | refine ⟨⟨_, _, rfl, rfl, .loop rfl rfl rfl rfl (by repeat' first | exact trivial | refine ⟨rfl, ?_⟩) rfl rfl rfl rfl⟩, ?_⟩)
theorem ok73 (hS : SumsOK Try.prog (aget (sums73))) : SumOK Try.prog 73 (s73 (octet_GetF)) := by
  refine SumOK.of_leads tab_ok (fun ar r ha hr => ?_) ⟨Try.f73, rfl, by decide, rfl⟩
  simp only [s73] at ha hr
  unfold r73 at hr
  split at hr <;> try (cases hr; done)
  split at hr <;> cases hr
  rename_i x h
  refine ⟨_, rfl, (leads73 hS _ _ _ x h).mono fun v H t hp => ?_⟩
  cases hp
  exact Res.val rfl trivial
def octet_Get : (List UInt8) → Int → Int → Option (Int × Bool) := octet_GetF
theorem lift73 : SumOK Try.prog 73 (s73 octet_Get) := ok73 (SumsOK.of_tab trivial)
end Go.Vm.Code

namespace Go.Vm.Code
open Go Go.Vm Go.Proofs
set_option maxRecDepth 100000
set_option maxHeartbeats 4000000
set_option linter.unusedVariables false

/-! cloakroom/cloakroomref02.Put -/
def R02_Put_s1 (k : Int) (n1 : Int) (s : List UInt8) (i : Int) : Option (Sum (Int × (List UInt8) × Int) (List UInt8)) :=
  cond (decide (i < k))
    (
    cond (decide (k ≤ 8))
      (
      let t := [UInt8.ofNat (wI .u8 (n1.tmod 256)).toNat]
      oreq (decide (t.length + s.length < 2 ^ 63)) <|
      some (.inl (wI .u64 (n1.tdiv 256), t ++ s, wI .i64 (i + 1))))
      (
      some (.inr (s))))
    (
    some (.inr (s)))
def R02_PutF (n : Int) (k : Int) : Option (List UInt8) :=
  iter (fun st => R02_Put_s1 k st.1 st.2.1 st.2.2) FUEL (n, [], 0)
def post76 (x : List UInt8) (v : Value) (H : Hp) : Prop := v = .string ⟨⟨x⟩⟩
def r76 (g : Int → Int → Option (List UInt8)) : List SArg → Option SRes
  | [.v (.int .u64 a0_1), .v (.int .i64 a1_1)] => match g a0_1 a1_1 with | some x => some ⟨.string ⟨⟨x⟩⟩, [], []⟩ | none => none
  | _ => none
def s76 (g : Int → Int → Option (List UInt8)) : Summ := ⟨[.v, .v], r76 g⟩
theorem r76_eq {g : Int → Int → Option (List UInt8)} {a0_1 : Int} {a1_1 : Int} {x : List UInt8} (hx : g a0_1 a1_1 = some x) : (s76 g).run [.v (.int .u64 a0_1), .v (.int .i64 a1_1)] = some ⟨.string ⟨⟨x⟩⟩, [], []⟩ := by
  show r76 g [.v (.int .u64 a0_1), .v (.int .i64 a1_1)] = _
  simp only [r76, hx]
abbrev sums76 : List (Nat × Summ) := []
def head76_1 (k : Int) (n1 : Int) (s : List UInt8) (i : Int) : VM :=
  ⟨⟨76, 26, [(0, .int .u64 n1), (1, .int .i64 k), (5, .string ⟨⟨s⟩⟩), (6, .int .i64 i)], [.code k76_12, .inLoop k76_12, .inBlock 0, .code k76_17], [], false, none⟩, [], [], 0⟩
theorem loop76_1 (hS : SumsOK Try.prog (aget (sums76))) (k : Int) (res : List UInt8) : ∀ fuel (st : Int × (List UInt8) × Int) (o : List UInt8), iter (fun st => R02_Put_s1 k st.1 st.2.1 st.2.2) fuel st = some o → (o = res) →
    Leads Try.prog 76 0 (head76_1 k st.1 st.2.1 st.2.2) (fun v H _ => post76 res v H) := by
  intro fuel st o h hc
  refine iter_leads (head := fun st => head76_1 k st.1 st.2.1 st.2.2) (C := fun o => (o = res)) ?_ fuel st o h hc
  clear h hc o st fuel
  intro st o h hc
  obtain ⟨n1, s, i⟩ := st
  replace h : R02_Put_s1 k n1 s i = some o := h
  show Leads Try.prog 76 0 (head76_1 k n1 s i) (fun v H _ => post76 res v H)
  unfold R02_Put_s1 at h
  refine ev_ok tab_ok hS true 3000 ?_
  conv => whnf
  refine br.h2 h ?_ ?_ ?_
  · rfl
  · clear h; intro hb h; conv => whnf
    all_goals (cases h; cases hc)
    all_goals exact rfl
  clear h; intro hb h; conv => whnf
  refine br.h2 h ?_ ?_ ?_
  · rfl
  · clear h; intro hb h; conv => whnf
    all_goals (cases h; cases hc)
    all_goals exact rfl
  clear h; intro hb h; conv => whnf
  refine pk_b2sL rfl ?_
  conv => whnf
  let t : List UInt8 := [UInt8.ofNat (wI .u8 (n1.tmod 256)).toNat]
  replace h := oreq.elim h; have hb := h.1; replace h := h.2
  first | (refine req.intro hb ?_; conv => whnf) | skip
  cases h; simp only [Sum.elim_inl, Sum.elim_inr, head76_1] at hc
  refine Leads.re hc [] rfl ?_ ?_ <;> (repeat' first | exact trivial | refine ⟨⟨_, rfl, rfl⟩, ?_⟩ | refine ⟨⟨_, _, rfl, rfl, .rowF (vI_flat _ _) id⟩, ?_⟩ | refine ⟨⟨_, _, rfl, rfl, .rowF (vS_flat _) id⟩, ?_⟩ | refine ⟨⟨_, _, rfl, rfl, .rowF (vB_flat _) id⟩, ?_⟩ | refine ⟨⟨_, _, rfl, rfl, .cells rfl⟩, ?_⟩ | refine ⟨⟨_, _, rfl, rfl, .row rfl id⟩, ?_⟩ | refine ⟨⟨_, _, rfl, rfl, .cr rfl⟩, ?_⟩ | refine ⟨⟨_, _, rfl, rfl, .rc rfl⟩, ?_⟩ | refine ⟨⟨_, _, rfl, rfl, .marks⟩, ?_⟩ | refine ⟨⟨_, _, rfl, rfl, .siter _ _⟩, ?_⟩ | refine ⟨⟨_, _, rfl, rfl, .loop rfl rfl rfl rfl (by repeat' first | exact trivial | refine ⟨rfl, ?_⟩) rfl rfl rfl rfl⟩, ?_⟩)
theorem leads76 (hS : SumsOK Try.prog (aget (sums76))) (n : Int) (k : Int) (res : List UInt8) (h : R02_PutF n k = some res) :
    Leads Try.prog 76 0 ⟨⟨76, 26, [(0, .int .u64 n), (1, .int .i64 k)], [.code k76_20], [], false, none⟩, [], [], 0⟩ (fun v H _ => post76 res v H) := by
  unfold R02_PutF at h
  refine ev_ok tab_ok hS true 3000 ?_
  conv => whnf
  have hl := loop76_1 hS _ res _ _ _ h rfl; simp only [head76_1] at hl
  refine Leads.re hl [] rfl ?_ ?_ <;> (repeat' first | exact trivial | refine ⟨⟨_, rfl, rfl⟩, ?_⟩ | refine ⟨⟨_, _, rfl, rfl, .rowF (vI_flat _ _) id⟩, ?_⟩ | refine ⟨⟨_, _, rfl, rfl, .rowF (vS_flat _) id⟩, ?_⟩ | refine ⟨⟨_, _, rfl, rfl, .rowF (vB_flat _) id⟩, ?_⟩ | refine ⟨⟨_, _, rfl, rfl, .cells rfl⟩, ?_⟩ | refine ⟨⟨_, _, rfl, rfl, .row rfl id⟩, ?_⟩ | refine ⟨⟨_, _, rfl, rfl, .cr rfl⟩, ?_⟩ | refine ⟨⟨_, _, rfl, rfl, .rc rfl⟩, ?_⟩ | refine ⟨⟨_, _, rfl, rfl, .marks⟩, ?_⟩ | refine ⟨⟨_, _, rfl, rfl, .siter _ _⟩, ?_⟩ | refine ⟨⟨_, _, rfl, rfl, .loop rfl rfl rfl rfl (by repeat' first | exact trivial | refine ⟨rfl, ?_⟩) rfl rfl rfl rfl⟩, ?_⟩)
theorem ok76 (hS : SumsOK Try.prog (aget (sums76))) : SumOK Try.prog 76 (s76 (R02_PutF)) := by
  refine SumOK.of_leads tab_ok (fun ar r ha hr => ?_) ⟨Try.f76, rfl, by decide, rfl⟩
  simp only [s76] at ha hr
  unfold r76 at hr
  split at hr <;> try (cases hr; done)
  split at hr <;> cases hr
  rename_i x h
  refine ⟨_, rfl, (leads76 hS _ _ x h).mono fun v H t hp => ?_⟩
  cases hp
  exact Res.val rfl trivial
def R02_Put : Int → Int → Option (List UInt8) := R02_PutF
theorem lift76 : SumOK Try.prog 76 (s76 R02_Put) := ok76 (SumsOK.of_tab trivial)
end Go.Vm.Code

namespace Go.Vm.Code
open Go Go.Vm Go.Proofs
set_option maxRecDepth 100000
set_option maxHeartbeats 4000000
set_option linter.unusedVariables false

/-! cloakroom/cloakroomref02.Get -/
def R02_Get_s1 (s : List UInt8) (ata1 : Int) (k : Int) (n : Int) (i : Int) : Option (Sum (Int × Int) (Int × Bool)) :=
  cond (decide (i < k))
    (
    oreq (decide (0 ≤ (wI .i64 (ata1 + i)))) <|
    (s[(wI .i64 (ata1 + i)).toNat]?).bind fun (b : UInt8) =>
    let t1 := wI .u64 ((wI .u64 (n * 256)) + (wI .u64 (b.toNat : Int)))
    some (.inl (t1, wI .i64 (i + 1))))
    (
    some (.inr ((n, true))))
def R02_GetF (s : List UInt8) (ata1 : Int) (k : Int) : Option (Int × Bool) :=
  cond (decide (k < 1))
    (
    some ((0, false)))
    (
    cond (decide (k > 8))
      (
      some ((0, false)))
      (
      cond (decide (ata1 < 0))
        (
        some ((0, false)))
        (
        cond (decide (ata1 > (s.length : Int)))
          (
          some ((0, false)))
          (
          let t := decide (k > (wI .i64 ((s.length : Int) - ata1)))
          cond (t)
            (
            some ((0, false)))
            (
            iter (fun st => R02_Get_s1 s ata1 k st.1 st.2) FUEL (0, 0))))))
def post75 (x : Int × Bool) (v : Value) (H : Hp) : Prop := v = .tuple ⟨[.int .u64 x.1, .bool x.2]⟩
def r75 (g : (List UInt8) → Int → Int → Option (Int × Bool)) : List SArg → Option SRes
  | [.v (.string ⟨⟨a0_1⟩⟩), .v (.int .i64 a1_1), .v (.int .i64 a2_1)] => match g a0_1 a1_1 a2_1 with | some x => some ⟨.tuple ⟨[.int .u64 x.1, .bool x.2]⟩, [], []⟩ | none => none
  | _ => none
def s75 (g : (List UInt8) → Int → Int → Option (Int × Bool)) : Summ := ⟨[.v, .v, .v], r75 g⟩
theorem r75_eq {g : (List UInt8) → Int → Int → Option (Int × Bool)} {a0_1 : List UInt8} {a1_1 : Int} {a2_1 : Int} {x : Int × Bool} (hx : g a0_1 a1_1 a2_1 = some x) : (s75 g).run [.v (.string ⟨⟨a0_1⟩⟩), .v (.int .i64 a1_1), .v (.int .i64 a2_1)] = some ⟨.tuple ⟨[.int .u64 x.1, .bool x.2]⟩, [], []⟩ := by
  show r75 g [.v (.string ⟨⟨a0_1⟩⟩), .v (.int .i64 a1_1), .v (.int .i64 a2_1)] = _
  simp only [r75, hx]
abbrev sums75 : List (Nat × Summ) := []
def head75_1 (s : List UInt8) (ata1 : Int) (k : Int) (n : Int) (i : Int) : VM :=
  ⟨⟨75, 49, [(0, .string ⟨⟨s⟩⟩), (1, .int .i64 ata1), (2, .int .i64 k), (8, .int .u64 n), (9, .int .i64 i)], [.code k75_15, .inLoop k75_15, .inBlock 0, .code k75_20], [], false, none⟩, [], [], 0⟩
theorem loop75_1 (hS : SumsOK Try.prog (aget (sums75))) (s : List UInt8) (ata1 : Int) (k : Int) (res : Int × Bool) : ∀ fuel (st : Int × Int) (o : Int × Bool), iter (fun st => R02_Get_s1 s ata1 k st.1 st.2) fuel st = some o → (o = res) →
    Leads Try.prog 75 0 (head75_1 s ata1 k st.1 st.2) (fun v H _ => post75 res v H) := by
  intro fuel st o h hc
  refine iter_leads (head := fun st => head75_1 s ata1 k st.1 st.2) (C := fun o => (o = res)) ?_ fuel st o h hc
  clear h hc o st fuel
  intro st o h hc
  obtain ⟨n, i⟩ := st
  replace h : R02_Get_s1 s ata1 k n i = some o := h
  show Leads Try.prog 75 0 (head75_1 s ata1 k n i) (fun v H _ => post75 res v H)
  unfold R02_Get_s1 at h
  refine ev_ok tab_ok hS true 3000 ?_
  conv => whnf
  refine br.h2 h ?_ ?_ ?_
  · rfl
  · clear h; intro hb h; conv => whnf
    all_goals (cases h; cases hc)
    all_goals exact rfl
  clear h; intro hb h; conv => whnf
  replace h := oreq.elim h; have hb := h.1; replace h := h.2
  first | (refine req.intro hb ?_; conv => whnf) | skip
  obtain ⟨b, hy, h2⟩ := obind.elim h; clear h; have h := h2; clear h2
  refine rdS.intro hy ?_
  conv => whnf
  let t1 : Int := wI .u64 ((wI .u64 (n * 256)) + (wI .u64 (b.toNat : Int)))
  cases h; simp only [Sum.elim_inl, Sum.elim_inr, head75_1] at hc
  refine Leads.re hc [] rfl ?_ ?_ <;> (repeat' first | exact trivial | refine ⟨⟨_, rfl, rfl⟩, ?_⟩ | refine ⟨⟨_, _, rfl, rfl, .rowF (vI_flat _ _) id⟩, ?_⟩ | refine ⟨⟨_, _, rfl, rfl, .rowF (vS_flat _) id⟩, ?_⟩ | refine ⟨⟨_, _, rfl, rfl, .rowF (vB_flat _) id⟩, ?_⟩ | refine ⟨⟨_, _, rfl, rfl, .cells rfl⟩, ?_⟩ | refine ⟨⟨_, _, rfl, rfl, .row rfl id⟩, ?_⟩ | refine ⟨⟨_, _, rfl, rfl, .cr rfl⟩, ?_⟩ | refine ⟨⟨_, _, rfl, rfl, .rc rfl⟩, ?_⟩ | refine ⟨⟨_, _, rfl, rfl, .marks⟩, ?_⟩ | refine ⟨⟨_, _, rfl, rfl, .siter _ _⟩, ?_⟩ | refine ⟨⟨_, _, rfl, rfl, .loop rfl rfl rfl rfl (by repeat' first | exact trivial | refine ⟨rfl, ?_⟩) rfl rfl rfl rfl⟩, ?_⟩)
theorem leads75 (hS : SumsOK Try.prog (aget (sums75))) (s : List UInt8) (ata1 : Int) (k : Int) (res : Int × Bool) (h : R02_GetF s ata1 k = some res) :
    Leads Try.prog 75 0 ⟨⟨75, 49, [(0, .string ⟨⟨s⟩⟩), (1, .int .i64 ata1), (2, .int .i64 k)], [.code k75_24], [], false, none⟩, [], [], 0⟩ (fun v H _ => post75 res v H) := by
  unfold R02_GetF at h
  refine ev_ok tab_ok hS true 3000 ?_
  conv => whnf
  refine br.h h ?_ ?_ ?_
  · rfl
  · clear h; intro hb h; conv => whnf
    all_goals (cases h)
    all_goals exact rfl
  clear h; intro hb h; conv => whnf
  refine br.h h ?_ ?_ ?_
  · rfl
  · clear h; intro hb h; conv => whnf
    all_goals (cases h)
    all_goals exact rfl
  clear h; intro hb h; conv => whnf
  refine br.h h ?_ ?_ ?_
  · rfl
  · clear h; intro hb h; conv => whnf
    all_goals (cases h)
    all_goals exact rfl
  clear h; intro hb h; conv => whnf
  refine br.h h ?_ ?_ ?_
  · rfl
  · clear h; intro hb h; conv => whnf
    all_goals (cases h)
    all_goals exact rfl
  clear h; intro hb h; conv => whnf
  let t : Bool := decide (k > (wI .i64 ((s.length : Int) - ata1)))
  refine br.h h ?_ ?_ ?_
  · rfl
  · clear h; intro hb h; conv => whnf
    all_goals (cases h)
    all_goals exact rfl
  clear h; intro hb h; conv => whnf
  have hl := loop75_1 hS _ _ _ res _ _ _ h rfl; simp only [head75_1] at hl
  refine Leads.re hl [] rfl ?_ ?_ <;> (repeat' first | exact trivial | refine ⟨⟨_, rfl, rfl⟩, ?_⟩ | refine ⟨⟨_, _, rfl, rfl, .rowF (vI_flat _ _) id⟩, ?_⟩ | refine ⟨⟨_, _, rfl, rfl, .rowF (vS_flat _) id⟩, ?_⟩ | refine ⟨⟨_, _, rfl, rfl, .rowF (vB_flat _) id⟩, ?_⟩ | refine ⟨⟨_, _, rfl, rfl, .cells rfl⟩, ?_⟩ | refine ⟨⟨_, _, rfl, rfl, .row rfl id⟩, ?_⟩ | refine ⟨⟨_, _, rfl, rfl, .cr rfl⟩, ?_⟩ | refine ⟨⟨_, _, rfl, rfl, .rc rfl⟩, ?_⟩ | refine ⟨⟨_, _, rfl, rfl, .marks⟩, ?_⟩ | refine ⟨⟨_, _, rfl, rfl, .siter _ _⟩, ?_⟩ | refine ⟨⟨_, _, rfl, rfl, .loop rfl rfl rfl rfl (by repeat' first | exact trivial | refine ⟨rfl, ?_⟩) rfl rfl rfl rfl⟩, ?_⟩)
theorem ok75 (hS : SumsOK Try.prog (aget (sums75))) : SumOK Try.prog 75 (s75 (R02_GetF)) := by
  refine SumOK.of_leads tab_ok (fun ar r ha hr => ?_) ⟨Try.f75, rfl, by decide, rfl⟩
  simp only [s75] at ha hr
  unfold r75 at hr
  split at hr <;> try (cases hr; done)
  split at hr <;> cases hr
  rename_i x h
  refine ⟨_, rfl, (leads75 hS _ _ _ x h).mono fun v H t hp => ?_⟩
  cases hp
  exact Res.val rfl trivial
def R02_Get : (List UInt8) → Int → Int → Option (Int × Bool) := R02_GetF
theorem lift75 : SumOK Try.prog 75 (s75 R02_Get) := ok75 (SumsOK.of_tab trivial)
end Go.Vm.Code

namespace Go.Vm.Code
open Go Go.Vm Go.Proofs
set_option maxRecDepth 100000
set_option maxHeartbeats 4000000
set_option linter.unusedVariables false

/-! cloakroom/cloakroomref02.Must -/
def R02_MustF (R02_Get : (List UInt8) → Int → Int → Option (Int × Bool)) (s : List UInt8) (ata1 : Int) (k : Int) : Option Int :=
  (R02_Get s ata1 k).bind fun xg =>
  some (wI .i64 xg.1)
def post87 (x : Int) (v : Value) (H : Hp) : Prop := v = .int .i64 x
def r87 (g : (List UInt8) → Int → Int → Option Int) : List SArg → Option SRes
  | [.v (.string ⟨⟨a0_1⟩⟩), .v (.int .i64 a1_1), .v (.int .i64 a2_1)] => match g a0_1 a1_1 a2_1 with | some x => some ⟨.int .i64 x, [], []⟩ | none => none
  | _ => none
def s87 (g : (List UInt8) → Int → Int → Option Int) : Summ := ⟨[.v, .v, .v], r87 g⟩
theorem r87_eq {g : (List UInt8) → Int → Int → Option Int} {a0_1 : List UInt8} {a1_1 : Int} {a2_1 : Int} {x : Int} (hx : g a0_1 a1_1 a2_1 = some x) : (s87 g).run [.v (.string ⟨⟨a0_1⟩⟩), .v (.int .i64 a1_1), .v (.int .i64 a2_1)] = some ⟨.int .i64 x, [], []⟩ := by
  show r87 g [.v (.string ⟨⟨a0_1⟩⟩), .v (.int .i64 a1_1), .v (.int .i64 a2_1)] = _
  simp only [r87, hx]
abbrev sums87 (R02_Get : (List UInt8) → Int → Int → Option (Int × Bool)) : List (Nat × Summ) := [(75, s75 R02_Get)]
theorem leads87 (R02_Get : (List UInt8) → Int → Int → Option (Int × Bool)) (hS : SumsOK Try.prog (aget (sums87 R02_Get))) (s : List UInt8) (ata1 : Int) (k : Int) (res : Int) (h : R02_MustF R02_Get s ata1 k = some res) :
    Leads Try.prog 87 0 ⟨⟨87, 18, [(0, .string ⟨⟨s⟩⟩), (1, .int .i64 ata1), (2, .int .i64 k)], [.code k87_5], [], false, none⟩, [], [], 0⟩ (fun v H _ => post87 res v H) := by
  unfold R02_MustF at h
  refine ev_ok tab_ok hS true 3000 ?_
  conv => whnf
  obtain ⟨xg, hy, h2⟩ := obind.elim h; clear h; have h := h2; clear h2
  refine sumK.introF [] (sumRun_of (aqs := [.v (.string ⟨⟨s⟩⟩), .v (.int .i64 ata1), .v (.int .i64 k)]) (ra_cons rfl (ra_cons rfl (ra_cons rfl ra_nil))) (r75_eq hy) rfl rfl rfl rfl) ?_
  conv => whnf
  all_goals (cases h)
  all_goals exact rfl
theorem ok87 (R02_Get : (List UInt8) → Int → Int → Option (Int × Bool)) (hS : SumsOK Try.prog (aget (sums87 R02_Get))) : SumOK Try.prog 87 (s87 (R02_MustF R02_Get)) := by
  refine SumOK.of_leads tab_ok (fun ar r ha hr => ?_) ⟨Try.f87, rfl, by decide, rfl⟩
  simp only [s87] at ha hr
  unfold r87 at hr
  split at hr <;> try (cases hr; done)
  split at hr <;> cases hr
  rename_i x h
  refine ⟨_, rfl, (leads87 R02_Get hS _ _ _ x h).mono fun v H t hp => ?_⟩
  cases hp
  exact Res.val rfl trivial
def R02_Must : (List UInt8) → Int → Int → Option Int := R02_MustF R02_Get
theorem lift87 : SumOK Try.prog 87 (s87 R02_Must) := ok87 R02_Get (SumsOK.of_tab ⟨lift75, trivial⟩)
end Go.Vm.Code

/- Chapter 2's numbers and bytes: what the lifted functions compute. -/
namespace Go.Vm.Code
open Go Go.Vm

def putS (n k : Int) : List UInt8 := if 1 ≤ k ∧ k ≤ 8 then be n.toNat k.toNat else []
theorem octet_Put_eq {n k : Int} (h0 : 0 ≤ n) : octet_Put n k = some (putS n k) := by
  unfold octet_Put octet_PutF putS
  by_cases h1 : k < 1
  · rw [cond_p h1, if_neg (by omega)]
  by_cases h2 : k > 8
  · rw [cond_n h1, cond_p h2, if_neg (by omega)]
  rw [cond_n h1, cond_n h2, oreq_p (by omega), if_pos (by omega)]
  obtain ⟨m, rfl⟩ := Int.eq_ofNat_of_zero_le h0
  obtain ⟨j, rfl⟩ := Int.eq_ofNat_of_zero_le (show 0 ≤ k by omega)
  have key := iter_eq (step := fun (st : Int × List Int) => octet_Put_s1 (m : Int) (j : Int) st.1 st.2) (fun st => iB (st.2.take st.1.toNat) ++ be m (j - st.1.toNat)) (fun st => 0 ≤ st.1 ∧ st.1 ≤ j ∧ st.2.length = j) (fun st => (j - st.1).toNat) ?_ FUEL (0, List.replicate (j : Int).toNat 0) ⟨by simp, by simp, by simp⟩ (by rw [FUEL_eq]; simp only; omega)
  · rw [key]; simp [iB]
  rintro ⟨p, b⟩ ⟨g1, g2, g3⟩
  simp only at g1 g2 g3 ⊢
  obtain ⟨i, rfl⟩ := Int.eq_ofNat_of_zero_le g1
  unfold octet_Put_s1
  by_cases hp : i < j
  · refine .inr ⟨(((i + 1 : Nat) : Int), b.set i ((m / 256 ^ (j - 1 - i) % 256 : Nat) : Int)), ?_, ⟨by simp only; omega, by simp only; omega, by simp [g3]⟩, by simp only; omega, ?_⟩
    · simp (disch := omega) only [wI64, oreq_p, cond_p, Int.toNat_natCast]
      have e1 : min (8 * ((j : Int) - 1 - i)).toNat 64 = 8 * (j - 1 - i) := by omega
      have e0 : (2 : Int) ^ (8 * (j - 1 - i)) = ((256 ^ (j - 1 - i) : Nat) : Int) := by rw [show (256 : Nat) = 2 ^ 8 from rfl, ← Nat.pow_mul]; push_cast; rfl
      rw [e1, fdivP, wU8m, e0]
      rfl
    · simp only [Int.toNat_natCast]
      have e2 : j - i = (j - (i + 1)) + 1 := by omega
      have e3 : j - (i + 1) = j - 1 - i := by omega
      have e4 : (b.set i ((m / 256 ^ (j - 1 - i) % 256 : Nat) : Int)).take (i + 1) = b.take i ++ [((m / 256 ^ (j - 1 - i) % 256 : Nat) : Int)] := by
        rw [List.take_succ_eq_append_getElem (by simp; omega), List.take_set_of_le (Nat.le_refl _), List.getElem_set_self]
      rw [e2, e4, be, e3]
      simp only [iB, List.map_append, List.map_cons, List.map_nil, List.append_assoc, List.cons_append, List.nil_append, Int.toNat_natCast]
      congr 2
      apply UInt8.toNat_inj.1
      simp
  · refine .inl ?_
    obtain rfl : i = j := by omega
    simp (disch := omega) only [cond_n, oreq_p, Int.toNat_natCast]
    simp [be]
theorem R02_Put_eq {n k : Int} (h0 : 0 ≤ n) (h1 : n < 2 ^ 64) : R02_Put n k = some (putS n k) := by
  unfold R02_Put R02_PutF putS
  obtain ⟨m, rfl⟩ := Int.eq_ofNat_of_zero_le h0
  by_cases hk : 1 ≤ k ∧ k ≤ 8
  · rw [if_pos hk]
    obtain ⟨j, rfl⟩ := Int.eq_ofNat_of_zero_le (show 0 ≤ k by omega)
    have key := iter_eq (step := fun st => R02_Put_s1 (j : Int) st.1 st.2.1 st.2.2) (fun st => be st.1.toNat (j - st.2.2.toNat) ++ st.2.1) (fun st => 0 ≤ st.1 ∧ st.1 < 2 ^ 64 ∧ 0 ≤ st.2.2 ∧ st.2.2 ≤ j ∧ st.2.1.length < 2 ^ 20 + st.2.2.toNat) (fun st => (j - st.2.2).toNat) ?_ FUEL ((m : Int), [], 0) ⟨by simp, by simp only; omega, by simp, by simp, by simp⟩ (by rw [FUEL_eq]; simp only; omega)
    · rw [key]; simp
    rintro ⟨n, s, p⟩ ⟨g1, g2, g3, g4, g5⟩
    simp only at g1 g2 g3 g4 g5 ⊢
    obtain ⟨i, rfl⟩ := Int.eq_ofNat_of_zero_le g3
    obtain ⟨x, rfl⟩ := Int.eq_ofNat_of_zero_le g1
    unfold R02_Put_s1
    by_cases hp : i < j
    · refine .inr ⟨(((x / 256 : Nat) : Int), UInt8.ofNat x :: s, ((i + 1 : Nat) : Int)), ?_, ⟨by simp only; omega, by simp only; omega, by simp only; omega, by simp only; omega, by simp at g5 ⊢; omega⟩, by simp only; omega, ?_⟩
      · have e1 : (x : Int).tmod 256 = ((x % 256 : Nat) : Int) := by rw [Int.tmod_eq_emod_of_nonneg (by omega)]; rfl
        have e2 : (x : Int).tdiv 256 = ((x / 256 : Nat) : Int) := by rw [Int.tdiv_eq_ediv_of_nonneg (by omega)]; rfl
        rw [cond_p (by omega), cond_p (by omega), e1, e2, wU8 (by omega) (by omega)]
        simp only [List.length_cons, List.length_nil]
        rw [oreq_p (by omega), wU64 (by omega) (by omega), wI64 (by omega) (by omega), Int.toNat_natCast]
        have e3 : UInt8.ofNat (x % 256) = UInt8.ofNat x := by apply UInt8.toNat_inj.1; simp
        rw [e3]; rfl
      · simp only [Int.toNat_natCast]
        have e2 : j - i = (j - (i + 1)) + 1 := by omega
        rw [e2, be_snoc]; simp
    · refine .inl ?_
      obtain rfl : i = j := by omega
      rw [cond_n (by omega)]
      simp [be]
  · rw [if_neg hk]
    show iter _ (18446744073709551615 + 1) _ = _
    rw [iter]
    have : R02_Put_s1 k (m : Int) [] 0 = some (.inr []) := by
      unfold R02_Put_s1
      by_cases h2 : 0 < k
      · rw [cond_p h2, cond_n (by omega)]
      · rw [cond_n h2]
    simp only [this]

/-- a number read -/
def getS (s : List UInt8) (p k : Int) : Int × Bool := if 1 ≤ k ∧ k ≤ 8 ∧ 0 ≤ p ∧ p + k ≤ s.length then (((valL ((s.drop p.toNat).take k.toNat) : Nat) : Int), true) else (0, false)
theorem pow_step {v i : Nat} (h : v < 256 ^ i) (hi : i ≤ 7) : v < 2 ^ 56 := Nat.lt_of_lt_of_le h (by
  have : (256 : Nat) ^ i ≤ 256 ^ 7 := Nat.pow_le_pow_right (by decide) hi
  simpa using this)
theorem octet_Get_eq {s : List UInt8} {p k : Int} (hs : s.length < 2 ^ 61) : octet_Get s p k = some (getS s p k) := by
  unfold octet_Get octet_GetF getS
  by_cases h1 : k < 1
  · rw [cond_p h1, if_neg (by omega)]
  by_cases h2 : k > 8
  · rw [cond_n h1, cond_p h2, if_neg (by omega)]
  by_cases h3 : p < 0
  · rw [cond_n h1, cond_n h2, cond_p h3, if_neg (by omega)]
  rw [cond_n h1, cond_n h2, cond_n h3, wI64 (n := (s.length : Int) - k) (by omega) (by omega)]
  by_cases h4 : (s.length : Int) - k < p
  · simp only []
    rw [cond_p h4, if_neg (by omega)]
  simp only []
  rw [cond_n h4, wI64 (n := p + k) (by omega) (by omega), oreq_p (by omega), if_pos (by omega)]
  obtain ⟨q, rfl⟩ := Int.eq_ofNat_of_zero_le (show 0 ≤ p by omega)
  obtain ⟨j, rfl⟩ := Int.eq_ofNat_of_zero_le (show 0 ≤ k by omega)
  have e : ((q : Int) + j).toNat - (q : Int).toNat = j := by omega
  rw [e]
  simp only [Int.toNat_natCast]
  generalize ht : (s.drop q).take j = t
  have hl : t.length = j := by rw [← ht]; simp; omega
  have key := iter_eq (step := fun st => octet_Get_s1 t st.1 st.2) (fun st => (((st.1.toNat * 256 ^ (j - st.2.toNat) + valL (t.drop st.2.toNat) : Nat) : Int), true)) (fun st => 0 ≤ st.1 ∧ 0 ≤ st.2 ∧ st.2 ≤ j ∧ st.1.toNat < 256 ^ st.2.toNat) (fun st => (j - st.2).toNat) ?_ FUEL (0, 0) ⟨by simp, by simp, by simp, by simp⟩ (by rw [FUEL_eq]; simp only; omega)
  · rw [key]; simp
  rintro ⟨n, x⟩ ⟨g1, g2, g3, g4⟩
  simp only at g1 g2 g3 g4 ⊢
  obtain ⟨i, rfl⟩ := Int.eq_ofNat_of_zero_le g2
  obtain ⟨v, rfl⟩ := Int.eq_ofNat_of_zero_le g1
  simp only [Int.toNat_natCast] at g4 ⊢
  unfold octet_Get_s1
  by_cases hp : i < j
  · have hlt : i < t.length := by omega
    have hb := t[i].toNat_lt
    have hv := pow_step g4 (by omega)
    refine .inr ⟨(((v * 256 + t[i].toNat : Nat) : Int), ((i + 1 : Nat) : Int)), ?_, ⟨by simp only; omega, by simp only; omega, by simp only; omega, ?_⟩, by simp only; omega, ?_⟩
    · rw [cond_p (by omega), oreq_p (by omega)]
      have e1 : (bI t)[(i : Int).toNat]? = some (t[i].toNat : Int) := by simp [bI, hlt]
      rw [e1, Option.bind_some]
      have e2 : iorI .u64 (wI .u64 ((v : Int) * 2 ^ 8)) (wI .u64 (t[i].toNat : Int)) = ((v * 256 + t[i].toNat : Nat) : Int) := by
        rw [wU64 (by omega) (by omega), wU64 (by omega) (by omega), iorU64_low 8 (by omega) (by omega) (by omega) (by omega) (by omega)]; omega
      simp only [e2]
      rw [wI64 (by omega) (by omega)]; rfl
    · simp only [Int.toNat_natCast]
      rw [Nat.pow_succ]; omega
    · simp only [Int.toNat_natCast]
      rw [List.drop_eq_getElem_cons hlt, val_cons]
      have e3 : (t.drop (i + 1)).length = j - (i + 1) := by simp; omega
      have e4 : j - i = (j - (i + 1)) + 1 := by omega
      rw [e3, e4, Nat.pow_succ, Nat.add_mul, Nat.mul_assoc, Nat.mul_comm 256, Nat.add_assoc]
  · refine .inl ?_
    obtain rfl : i = j := by omega
    rw [cond_n (by omega)]
    simp [← hl]
theorem R02_Get_eq {s : List UInt8} {p k : Int} (hs : s.length < 2 ^ 61) : R02_Get s p k = some (getS s p k) := by
  unfold R02_Get R02_GetF getS
  by_cases h1 : k < 1
  · rw [cond_p h1, if_neg (by omega)]
  by_cases h2 : k > 8
  · rw [cond_n h1, cond_p h2, if_neg (by omega)]
  by_cases h3 : p < 0
  · rw [cond_n h1, cond_n h2, cond_p h3, if_neg (by omega)]
  by_cases h5 : p > s.length
  · rw [cond_n h1, cond_n h2, cond_n h3, cond_p h5, if_neg (by omega)]
  rw [cond_n h1, cond_n h2, cond_n h3, cond_n h5, wI64 (n := (s.length : Int) - p) (by omega) (by omega)]
  by_cases h4 : k > (s.length : Int) - p
  · simp only []
    rw [cond_p h4, if_neg (by omega)]
  simp only []
  rw [cond_n h4, if_pos (by omega)]
  obtain ⟨q, rfl⟩ := Int.eq_ofNat_of_zero_le (show 0 ≤ p by omega)
  obtain ⟨j, rfl⟩ := Int.eq_ofNat_of_zero_le (show 0 ≤ k by omega)
  simp only [Int.toNat_natCast]
  generalize ht : (s.drop q).take j = t
  have hl : t.length = j := by rw [← ht]; simp; omega
  have key := iter_eq (step := fun st => R02_Get_s1 s (q : Int) (j : Int) st.1 st.2) (fun st => (((st.1.toNat * 256 ^ (j - st.2.toNat) + valL (t.drop st.2.toNat) : Nat) : Int), true)) (fun st => 0 ≤ st.1 ∧ 0 ≤ st.2 ∧ st.2 ≤ j ∧ st.1.toNat < 256 ^ st.2.toNat) (fun st => (j - st.2).toNat) ?_ FUEL (0, 0) ⟨by simp, by simp, by simp, by simp⟩ (by rw [FUEL_eq]; simp only; omega)
  · rw [key]; simp
  rintro ⟨n, x⟩ ⟨g1, g2, g3, g4⟩
  simp only at g1 g2 g3 g4 ⊢
  obtain ⟨i, rfl⟩ := Int.eq_ofNat_of_zero_le g2
  obtain ⟨v, rfl⟩ := Int.eq_ofNat_of_zero_le g1
  simp only [Int.toNat_natCast] at g4 ⊢
  unfold R02_Get_s1
  by_cases hp : i < j
  · have hlt : i < t.length := by omega
    have hb := t[i].toNat_lt
    have hv := pow_step g4 (by omega)
    refine .inr ⟨(((v * 256 + t[i].toNat : Nat) : Int), ((i + 1 : Nat) : Int)), ?_, ⟨by simp only; omega, by simp only; omega, by simp only; omega, ?_⟩, by simp only; omega, ?_⟩
    · rw [cond_p (by omega), wI64 (n := (q : Int) + i) (by omega) (by omega), oreq_p (by omega)]
      have e0 : ((q : Int) + i).toNat = q + i := by omega
      have e1 : s[q + i]? = some t[i] := by
        subst ht
        rw [List.getElem?_eq_getElem (by omega)]
        simp
      rw [e0, e1, Option.bind_some]
      have e2 : wI .u64 ((wI .u64 ((v : Int) * 256)) + (wI .u64 (t[i].toNat : Int))) = ((v * 256 + t[i].toNat : Nat) : Int) := by
        rw [wU64 (n := (v : Int) * 256) (by omega) (by omega), wU64 (n := (t[i].toNat : Int)) (by omega) (by omega), wU64 (by omega) (by omega)]; omega
      simp only [e2]
      rw [wI64 (by omega) (by omega)]; rfl
    · simp only [Int.toNat_natCast]
      rw [Nat.pow_succ]; omega
    · simp only [Int.toNat_natCast]
      rw [List.drop_eq_getElem_cons hlt, val_cons]
      have e3 : (t.drop (i + 1)).length = j - (i + 1) := by simp; omega
      have e4 : j - i = (j - (i + 1)) + 1 := by omega
      rw [e3, e4, Nat.pow_succ, Nat.add_mul, Nat.mul_assoc, Nat.mul_comm 256, Nat.add_assoc]
  · refine .inl ?_
    obtain rfl : i = j := by omega
    rw [cond_n (by omega)]
    simp [← hl]
theorem R02_Must_eq {s : List UInt8} {p k : Int} (hs : s.length < 2 ^ 61) : R02_Must s p k = some (wI .i64 (getS s p k).1) := by
  unfold R02_Must R02_MustF
  rw [R02_Get_eq hs]; rfl
end Go.Vm.Code

namespace Go.Vm.Code
open Go Go.Vm Go.Proofs
set_option maxRecDepth 100000
set_option maxHeartbeats 4000000
set_option linter.unusedVariables false

/-! cloakroom/check.Right -/
def check_RightF (check_Sum : (List UInt8) → Option Int) (s : List UInt8) : Option Bool :=
  (check_Sum s).bind fun s1 =>
  some (s1 == 65535)
def post42 (x : Bool) (v : Value) (H : Hp) : Prop := v = .bool x
def r42 (g : (List UInt8) → Option Bool) : List SArg → Option SRes
  | [.v (.string ⟨⟨a0_1⟩⟩)] => match g a0_1 with | some x => some ⟨.bool x, [], []⟩ | none => none
  | _ => none
def s42 (g : (List UInt8) → Option Bool) : Summ := ⟨[.v], r42 g⟩
theorem r42_eq {g : (List UInt8) → Option Bool} {a0_1 : List UInt8} {x : Bool} (hx : g a0_1 = some x) : (s42 g).run [.v (.string ⟨⟨a0_1⟩⟩)] = some ⟨.bool x, [], []⟩ := by
  show r42 g [.v (.string ⟨⟨a0_1⟩⟩)] = _
  simp only [r42, hx]
abbrev sums42 (check_Sum : (List UInt8) → Option Int) : List (Nat × Summ) := [(29, s29 check_Sum)]
theorem leads42 (check_Sum : (List UInt8) → Option Int) (hS : SumsOK Try.prog (aget (sums42 check_Sum))) (s : List UInt8) (res : Bool) (h : check_RightF check_Sum s = some res) :
    Leads Try.prog 42 0 ⟨⟨42, 6, [(0, .string ⟨⟨s⟩⟩)], [.code k42_3], [], false, none⟩, [], [], 0⟩ (fun v H _ => post42 res v H) := by
  unfold check_RightF at h
  refine ev_ok tab_ok hS true 3000 ?_
  conv => whnf
  obtain ⟨s1, hy, h2⟩ := obind.elim h; clear h; have h := h2; clear h2
  refine sumK.introF [] (sumRun_of (aqs := [.v (.string ⟨⟨s⟩⟩)]) (ra_cons rfl ra_nil) (r29_eq hy) rfl rfl rfl rfl) ?_
  conv => whnf
  all_goals (cases h)
  all_goals exact rfl
theorem ok42 (check_Sum : (List UInt8) → Option Int) (hS : SumsOK Try.prog (aget (sums42 check_Sum))) : SumOK Try.prog 42 (s42 (check_RightF check_Sum)) := by
  refine SumOK.of_leads tab_ok (fun ar r ha hr => ?_) ⟨Try.f42, rfl, by decide, rfl⟩
  simp only [s42] at ha hr
  unfold r42 at hr
  split at hr <;> try (cases hr; done)
  split at hr <;> cases hr
  rename_i x h
  refine ⟨_, rfl, (leads42 check_Sum hS _ x h).mono fun v H t hp => ?_⟩
  cases hp
  exact Res.val rfl trivial
def check_Right : (List UInt8) → Option Bool := check_RightF check_Sum
theorem lift42 : SumOK Try.prog 42 (s42 check_Right) := ok42 check_Sum (SumsOK.of_tab ⟨lift29, trivial⟩)
end Go.Vm.Code

namespace Go.Vm.Code
open Go Go.Vm Go.Proofs
set_option maxRecDepth 100000
set_option maxHeartbeats 4000000
set_option linter.unusedVariables false

/-! cloakroom/check.Set -/
def check_SetF (octet_Put : Int → Int → Option (List UInt8)) (s : List UInt8) (ata1 : Int) (k : Int) (n : Int) : Option (List UInt8) :=
  (octet_Put n k).bind fun p =>
  cond (p == [])
    (
    some (s))
    (
    cond (decide (ata1 < 0))
      (
      some (s))
      (
      let t := decide ((wI .i64 ((s.length : Int) - k)) < ata1)
      cond (t)
        (
        some (s))
        (
        oreq (decide ((0 : Int) ≤ ata1 ∧ ata1 ≤ (s.length : Int))) <|
        oreq (decide ((s.take ata1.toNat).length + p.length < 2 ^ 63)) <|
        oreq (decide ((0 : Int) ≤ (wI .i64 (ata1 + k)) ∧ (wI .i64 (ata1 + k)) ≤ (s.length : Int))) <|
        let t1 := (s.drop (wI .i64 (ata1 + k)).toNat).take (s.length - (wI .i64 (ata1 + k)).toNat)
        oreq (decide (((s.take ata1.toNat) ++ p).length + t1.length < 2 ^ 63)) <|
        some (((s.take ata1.toNat) ++ p) ++ t1))))
def post47 (x : List UInt8) (v : Value) (H : Hp) : Prop := v = .string ⟨⟨x⟩⟩
def r47 (g : (List UInt8) → Int → Int → Int → Option (List UInt8)) : List SArg → Option SRes
  | [.v (.string ⟨⟨a0_1⟩⟩), .v (.int .i64 a1_1), .v (.int .i64 a2_1), .v (.int .u64 a3_1)] => match g a0_1 a1_1 a2_1 a3_1 with | some x => some ⟨.string ⟨⟨x⟩⟩, [], []⟩ | none => none
  | _ => none
def s47 (g : (List UInt8) → Int → Int → Int → Option (List UInt8)) : Summ := ⟨[.v, .v, .v, .v], r47 g⟩
theorem r47_eq {g : (List UInt8) → Int → Int → Int → Option (List UInt8)} {a0_1 : List UInt8} {a1_1 : Int} {a2_1 : Int} {a3_1 : Int} {x : List UInt8} (hx : g a0_1 a1_1 a2_1 a3_1 = some x) : (s47 g).run [.v (.string ⟨⟨a0_1⟩⟩), .v (.int .i64 a1_1), .v (.int .i64 a2_1), .v (.int .u64 a3_1)] = some ⟨.string ⟨⟨x⟩⟩, [], []⟩ := by
  show r47 g [.v (.string ⟨⟨a0_1⟩⟩), .v (.int .i64 a1_1), .v (.int .i64 a2_1), .v (.int .u64 a3_1)] = _
  simp only [r47, hx]
abbrev sums47 (octet_Put : Int → Int → Option (List UInt8)) : List (Nat × Summ) := [(74, s74 octet_Put)]
theorem leads47 (octet_Put : Int → Int → Option (List UInt8)) (hS : SumsOK Try.prog (aget (sums47 octet_Put))) (s : List UInt8) (ata1 : Int) (k : Int) (n : Int) (res : List UInt8) (h : check_SetF octet_Put s ata1 k n = some res) :
    Leads Try.prog 47 0 ⟨⟨47, 39, [(0, .string ⟨⟨s⟩⟩), (1, .int .i64 ata1), (2, .int .i64 k), (3, .int .u64 n)], [.code k47_11], [], false, none⟩, [], [], 0⟩ (fun v H _ => post47 res v H) := by
  unfold check_SetF at h
  refine ev_ok tab_ok hS true 3000 ?_
  conv => whnf
  obtain ⟨p, hy, h2⟩ := obind.elim h; clear h; have h := h2; clear h2
  refine sumK.introF [] (sumRun_of (aqs := [.v (.int .u64 n), .v (.int .i64 k)]) (ra_cons rfl (ra_cons rfl ra_nil)) (r74_eq hy) rfl rfl rfl rfl) ?_
  conv => whnf
  refine br.h h ?_ ?_ ?_
  · rfl
  · clear h; intro hb h; conv => whnf
    all_goals (cases h)
    all_goals exact rfl
  clear h; intro hb h; conv => whnf
  refine br.h h ?_ ?_ ?_
  · rfl
  · clear h; intro hb h; conv => whnf
    all_goals (cases h)
    all_goals exact rfl
  clear h; intro hb h; conv => whnf
  let t : Bool := decide ((wI .i64 ((s.length : Int) - k)) < ata1)
  refine br.h h ?_ ?_ ?_
  · rfl
  · clear h; intro hb h; conv => whnf
    all_goals (cases h)
    all_goals exact rfl
  clear h; intro hb h; conv => whnf
  replace h := oreq.elim h; have hb := h.1; replace h := h.2
  first | (refine req.intro hb ?_; conv => whnf) | skip
  replace h := oreq.elim h; have hb := h.1; replace h := h.2
  first | (refine req.intro hb ?_; conv => whnf) | skip
  replace h := oreq.elim h; have hb := h.1; replace h := h.2
  first | (refine req.intro hb ?_; conv => whnf) | skip
  let t1 : List UInt8 := (s.drop (wI .i64 (ata1 + k)).toNat).take (s.length - (wI .i64 (ata1 + k)).toNat)
  replace h := oreq.elim h; have hb := h.1; replace h := h.2
  first | (refine req.intro hb ?_; conv => whnf) | skip
  all_goals (cases h)
  all_goals exact rfl
theorem ok47 (octet_Put : Int → Int → Option (List UInt8)) (hS : SumsOK Try.prog (aget (sums47 octet_Put))) : SumOK Try.prog 47 (s47 (check_SetF octet_Put)) := by
  refine SumOK.of_leads tab_ok (fun ar r ha hr => ?_) ⟨Try.f47, rfl, by decide, rfl⟩
  simp only [s47] at ha hr
  unfold r47 at hr
  split at hr <;> try (cases hr; done)
  split at hr <;> cases hr
  rename_i x h
  refine ⟨_, rfl, (leads47 octet_Put hS _ _ _ _ x h).mono fun v H t hp => ?_⟩
  cases hp
  exact Res.val rfl trivial
def check_Set : (List UInt8) → Int → Int → Int → Option (List UInt8) := check_SetF octet_Put
theorem lift47 : SumOK Try.prog 47 (s47 check_Set) := ok47 octet_Put (SumsOK.of_tab ⟨lift74, trivial⟩)
end Go.Vm.Code

namespace Go.Vm.Code
open Go Go.Vm Go.Proofs
set_option maxRecDepth 100000
set_option maxHeartbeats 4000000
set_option linter.unusedVariables false

/-! cloakroom/cloakroomlaw03.awake -/
def law03_awakeF (check_Sum : (List UInt8) → Option Int) (check_Right : (List UInt8) → Option Bool) (check_Set : (List UInt8) → Int → Int → Int → Option (List UInt8)) : Option Bool :=
  (check_Sum [0, 1, 242, 3]).bind fun s =>
  cond (s == 61956)
    (
    (check_Right [255, 255]).bind fun xr =>
    cond (xr)
      (
      (check_Right [0, 0]).bind fun xr1 =>
      cond (!xr1)
        (
        (check_Set [97, 98, 99] 1 1 65).bind fun s1 =>
        some (s1 == [97, 65, 99]))
        (
        some (false)))
      (
      some (false)))
    (
    some (false))
def post28 (x : Bool) (v : Value) (H : Hp) : Prop := v = .bool x
def r28 (g : Option Bool) : List SArg → Option SRes
  | [] => match g  with | some x => some ⟨.bool x, [], []⟩ | none => none
  | _ => none
def s28 (g : Option Bool) : Summ := ⟨[], r28 g⟩
theorem r28_eq {g : Option Bool} {x : Bool} (hx : g  = some x) : (s28 g).run [] = some ⟨.bool x, [], []⟩ := by
  show r28 g [] = _
  simp only [r28, hx]
abbrev sums28 (check_Sum : (List UInt8) → Option Int) (check_Right : (List UInt8) → Option Bool) (check_Set : (List UInt8) → Int → Int → Int → Option (List UInt8)) : List (Nat × Summ) := [(29, s29 check_Sum), (42, s42 check_Right), (47, s47 check_Set)]
theorem leads28 (check_Sum : (List UInt8) → Option Int) (check_Right : (List UInt8) → Option Bool) (check_Set : (List UInt8) → Int → Int → Int → Option (List UInt8)) (hS : SumsOK Try.prog (aget (sums28 check_Sum check_Right check_Set))) (res : Bool) (h : law03_awakeF check_Sum check_Right check_Set = some res) :
    Leads Try.prog 28 0 ⟨⟨28, 14, [], [.code k28_3], [], false, none⟩, [], [], 0⟩ (fun v H _ => post28 res v H) := by
  unfold law03_awakeF at h
  refine ev_ok tab_ok hS true 3000 ?_
  conv => whnf
  obtain ⟨s, hy, h2⟩ := obind.elim h; clear h; have h := h2; clear h2
  refine sumK.introF [] (sumRun_of (aqs := [.v (.string ⟨⟨[0, 1, 242, 3]⟩⟩)]) (ra_cons rfl ra_nil) (r29_eq hy) rfl rfl rfl rfl) ?_
  conv => whnf
  refine br.h2 h ?_ ?_ ?_
  · rfl
  · clear h; intro hb h; conv => whnf
    all_goals (cases h)
    all_goals exact rfl
  clear h; intro hb h; conv => whnf
  obtain ⟨xr, hy, h2⟩ := obind.elim h; clear h; have h := h2; clear h2
  refine sumK.introF [] (sumRun_of (aqs := [.v (.string ⟨⟨[255, 255]⟩⟩)]) (ra_cons rfl ra_nil) (r42_eq hy) rfl rfl rfl rfl) ?_
  conv => whnf
  refine br.h2 h ?_ ?_ ?_
  · rfl
  · clear h; intro hb h; conv => whnf
    all_goals (cases h)
    all_goals exact rfl
  clear h; intro hb h; conv => whnf
  obtain ⟨xr1, hy, h2⟩ := obind.elim h; clear h; have h := h2; clear h2
  refine sumK.introF [] (sumRun_of (aqs := [.v (.string ⟨⟨[0, 0]⟩⟩)]) (ra_cons rfl ra_nil) (r42_eq hy) rfl rfl rfl rfl) ?_
  conv => whnf
  refine br.h2 h ?_ ?_ ?_
  · rfl
  · clear h; intro hb h; conv => whnf
    all_goals (cases h)
    all_goals exact rfl
  clear h; intro hb h; conv => whnf
  obtain ⟨s1, hy, h2⟩ := obind.elim h; clear h; have h := h2; clear h2
  refine sumK.introF [] (sumRun_of (aqs := [.v (.string ⟨⟨[97, 98, 99]⟩⟩), .v (.int .i64 1), .v (.int .i64 1), .v (.int .u64 65)]) (ra_cons rfl (ra_cons rfl (ra_cons rfl (ra_cons rfl ra_nil)))) (r47_eq hy) rfl rfl rfl rfl) ?_
  conv => whnf
  all_goals (cases h)
  all_goals exact rfl
theorem ok28 (check_Sum : (List UInt8) → Option Int) (check_Right : (List UInt8) → Option Bool) (check_Set : (List UInt8) → Int → Int → Int → Option (List UInt8)) (hS : SumsOK Try.prog (aget (sums28 check_Sum check_Right check_Set))) : SumOK Try.prog 28 (s28 (law03_awakeF check_Sum check_Right check_Set)) := by
  refine SumOK.of_leads tab_ok (fun ar r ha hr => ?_) ⟨Try.f28, rfl, by decide, rfl⟩
  simp only [s28] at ha hr
  unfold r28 at hr
  split at hr <;> try (cases hr; done)
  split at hr <;> cases hr
  rename_i x h
  refine ⟨_, rfl, (leads28 check_Sum check_Right check_Set hS x h).mono fun v H t hp => ?_⟩
  cases hp
  exact Res.val rfl trivial
def law03_awake : Option Bool := law03_awakeF check_Sum check_Right check_Set
theorem lift28 : SumOK Try.prog 28 (s28 law03_awake) := ok28 check_Sum check_Right check_Set (SumsOK.of_tab ⟨lift29, lift42, lift47, trivial⟩)
end Go.Vm.Code

namespace Go.Vm.Code
open Go Go.Vm Go.Proofs
set_option maxRecDepth 100000
set_option maxHeartbeats 4000000
set_option linter.unusedVariables false

/-! cloakroom/cloakroomlaw03.CheckOrder -/
def law03_CheckOrder_s1 (law03_awake : Option Bool) (check_Sum : (List UInt8) → Option Int) (a : List UInt8) (b : List UInt8) (zero : Bool) (turned : List UInt8) (i : Int) : Option (Sum (Bool × (List UInt8) × Int) Bool) :=
  cond (decide (i < ((a ++ b).length : Int)))
    (
    cond (zero)
      (
      oreq (decide (0 ≤ i)) <|
      ((a ++ b)[i.toNat]?).bind fun (b1 : UInt8) =>
      cond ((b1.toNat : Int) == 0)
        (
        oreq (decide (0 ≤ (wI .i64 (i + 1)))) <|
        ((a ++ b)[(wI .i64 (i + 1)).toNat]?).bind fun (b2 : UInt8) =>
        oreq (decide ((0 : Int) ≤ (wI .i64 (i + 2)) ∧ (wI .i64 (i + 2)) ≤ ((a ++ b).length : Int) ∧ (0 : Int) ≤ (wI .i64 (i + 1)) ∧ (wI .i64 (i + 1)) ≤ ((wI .i64 (i + 2)).toNat : Int))) <|
        let t := ((a ++ b).drop (wI .i64 (i + 1)).toNat).take ((wI .i64 (i + 2)).toNat - (wI .i64 (i + 1)).toNat)
        oreq (decide (turned.length + t.length < 2 ^ 63)) <|
        oreq (decide ((0 : Int) ≤ (wI .i64 (i + 1)) ∧ (wI .i64 (i + 1)) ≤ ((a ++ b).length : Int) ∧ (0 : Int) ≤ i ∧ i ≤ ((wI .i64 (i + 1)).toNat : Int))) <|
        let t1 := ((a ++ b).drop i.toNat).take ((wI .i64 (i + 1)).toNat - i.toNat)
        oreq (decide ((turned ++ t).length + t1.length < 2 ^ 63)) <|
        some (.inl ((b2.toNat : Int) == 0, (turned ++ t) ++ t1, wI .i64 (i + 2))))
        (
        oreq (decide ((0 : Int) ≤ (wI .i64 (i + 2)) ∧ (wI .i64 (i + 2)) ≤ ((a ++ b).length : Int) ∧ (0 : Int) ≤ (wI .i64 (i + 1)) ∧ (wI .i64 (i + 1)) ≤ ((wI .i64 (i + 2)).toNat : Int))) <|
        let t2 := ((a ++ b).drop (wI .i64 (i + 1)).toNat).take ((wI .i64 (i + 2)).toNat - (wI .i64 (i + 1)).toNat)
        oreq (decide (turned.length + t2.length < 2 ^ 63)) <|
        oreq (decide ((0 : Int) ≤ (wI .i64 (i + 1)) ∧ (wI .i64 (i + 1)) ≤ ((a ++ b).length : Int) ∧ (0 : Int) ≤ i ∧ i ≤ ((wI .i64 (i + 1)).toNat : Int))) <|
        let t3 := ((a ++ b).drop i.toNat).take ((wI .i64 (i + 1)).toNat - i.toNat)
        oreq (decide ((turned ++ t2).length + t3.length < 2 ^ 63)) <|
        some (.inl (false, (turned ++ t2) ++ t3, wI .i64 (i + 2)))))
      (
      oreq (decide ((0 : Int) ≤ (wI .i64 (i + 2)) ∧ (wI .i64 (i + 2)) ≤ ((a ++ b).length : Int) ∧ (0 : Int) ≤ (wI .i64 (i + 1)) ∧ (wI .i64 (i + 1)) ≤ ((wI .i64 (i + 2)).toNat : Int))) <|
      let t4 := ((a ++ b).drop (wI .i64 (i + 1)).toNat).take ((wI .i64 (i + 2)).toNat - (wI .i64 (i + 1)).toNat)
      oreq (decide (turned.length + t4.length < 2 ^ 63)) <|
      oreq (decide ((0 : Int) ≤ (wI .i64 (i + 1)) ∧ (wI .i64 (i + 1)) ≤ ((a ++ b).length : Int) ∧ (0 : Int) ≤ i ∧ i ≤ ((wI .i64 (i + 1)).toNat : Int))) <|
      let t5 := ((a ++ b).drop i.toNat).take ((wI .i64 (i + 1)).toNat - i.toNat)
      oreq (decide ((turned ++ t4).length + t5.length < 2 ^ 63)) <|
      some (.inl (false, (turned ++ t4) ++ t5, wI .i64 (i + 2)))))
    (
    (check_Sum (a ++ b)).bind fun s =>
    oreq (decide (b.length + a.length < 2 ^ 63)) <|
    (check_Sum (b ++ a)).bind fun s1 =>
    cond (s == s1)
      (
      cond ((s == 0) == zero)
        (
        cond (decide (s ≥ 0))
          (
          cond (decide (s ≤ 65535))
            (
            (check_Sum turned).bind fun s2 =>
            let t6 := wI .i64 ((wI .i64 (s.tdiv 256)) + (wI .i64 ((s.tmod 256) * 256)))
            cond (s2 == t6)
              (
              (law03_awake).bind fun a5 =>
              some (.inr (a5)))
              (
              some (.inr (false))))
            (
            some (.inr (false))))
          (
          some (.inr (false))))
        (
        some (.inr (false))))
      (
      some (.inr (false))))
def law03_CheckOrderF (law03_awake : Option Bool) (check_Sum : (List UInt8) → Option Int) (a : List UInt8) (b : List UInt8) : Option Bool :=
  cond (decide ((a.length : Int) > 100))
    (
    (law03_awake).bind fun a1 =>
    some (a1))
    (
    cond (decide ((b.length : Int) > 100))
      (
      (law03_awake).bind fun a2 =>
      some (a2))
      (
      cond (((a.length : Int).tmod 2) == 1)
        (
        (law03_awake).bind fun a3 =>
        some (a3))
        (
        cond (((b.length : Int).tmod 2) == 1)
          (
          (law03_awake).bind fun a4 =>
          some (a4))
          (
          oreq (decide (a.length + b.length < 2 ^ 63)) <|
          iter (fun st => law03_CheckOrder_s1 law03_awake check_Sum a b st.1 st.2.1 st.2.2) FUEL (true, [], 0)))))
def post7 (x : Bool) (v : Value) (H : Hp) : Prop := v = .bool x
def r7 (g : (List UInt8) → (List UInt8) → Option Bool) : List SArg → Option SRes
  | [.v (.string ⟨⟨a0_1⟩⟩), .v (.string ⟨⟨a1_1⟩⟩)] => match g a0_1 a1_1 with | some x => some ⟨.bool x, [], []⟩ | none => none
  | _ => none
def s7 (g : (List UInt8) → (List UInt8) → Option Bool) : Summ := ⟨[.v, .v], r7 g⟩
theorem r7_eq {g : (List UInt8) → (List UInt8) → Option Bool} {a0_1 : List UInt8} {a1_1 : List UInt8} {x : Bool} (hx : g a0_1 a1_1 = some x) : (s7 g).run [.v (.string ⟨⟨a0_1⟩⟩), .v (.string ⟨⟨a1_1⟩⟩)] = some ⟨.bool x, [], []⟩ := by
  show r7 g [.v (.string ⟨⟨a0_1⟩⟩), .v (.string ⟨⟨a1_1⟩⟩)] = _
  simp only [r7, hx]
abbrev sums7 (law03_awake : Option Bool) (check_Sum : (List UInt8) → Option Int) : List (Nat × Summ) := [(28, s28 law03_awake), (29, s29 check_Sum)]
def head7_1 (a : List UInt8) (b : List UInt8) (zero : Bool) (turned : List UInt8) (i : Int) : VM :=
  ⟨⟨7, 104, [(0, .string ⟨⟨a⟩⟩), (1, .string ⟨⟨b⟩⟩), (5, .bool zero), (6, .string ⟨⟨turned⟩⟩), (7, .string ⟨⟨a ++ b⟩⟩), (8, .int .i64 i)], [.code k7_19, .inLoop k7_19, .inBlock 0, .code k7_26], [], false, none⟩, [], [], 0⟩
theorem loop7_1 (law03_awake : Option Bool) (check_Sum : (List UInt8) → Option Int) (hS : SumsOK Try.prog (aget (sums7 law03_awake check_Sum))) (a : List UInt8) (b : List UInt8) (res : Bool) : ∀ fuel (st : Bool × (List UInt8) × Int) (o : Bool), iter (fun st => law03_CheckOrder_s1 law03_awake check_Sum a b st.1 st.2.1 st.2.2) fuel st = some o → (o = res) →
    Leads Try.prog 7 0 (head7_1 a b st.1 st.2.1 st.2.2) (fun v H _ => post7 res v H) := by
  intro fuel st o h hc
  refine iter_leads (head := fun st => head7_1 a b st.1 st.2.1 st.2.2) (C := fun o => (o = res)) ?_ fuel st o h hc
  clear h hc o st fuel
  intro st o h hc
  obtain ⟨zero, turned, i⟩ := st
  replace h : law03_CheckOrder_s1 law03_awake check_Sum a b zero turned i = some o := h
  show Leads Try.prog 7 0 (head7_1 a b zero turned i) (fun v H _ => post7 res v H)
  unfold law03_CheckOrder_s1 at h
  refine ev_ok tab_ok hS true 3000 ?_
  conv => whnf
  refine br.h2 h ?_ ?_ ?_
  · rfl
  · clear h; intro hb h; conv => whnf
    obtain ⟨s, hy, h2⟩ := obind.elim h; clear h; have h := h2; clear h2
    refine sumK.introF [] (sumRun_of (aqs := [.v (.string ⟨⟨a ++ b⟩⟩)]) (ra_cons rfl ra_nil) (r29_eq hy) rfl rfl rfl rfl) ?_
    conv => whnf
    replace h := oreq.elim h; have hb := h.1; replace h := h.2
    first | (refine req.intro hb ?_; conv => whnf) | skip
    obtain ⟨s1, hy, h2⟩ := obind.elim h; clear h; have h := h2; clear h2
    refine sumK.introF [] (sumRun_of (aqs := [.v (.string ⟨⟨b ++ a⟩⟩)]) (ra_cons rfl ra_nil) (r29_eq hy) rfl rfl rfl rfl) ?_
    conv => whnf
    refine br.h2 h ?_ ?_ ?_
    · rfl
    · clear h; intro hb h; conv => whnf
      all_goals (cases h; cases hc)
      all_goals exact rfl
    clear h; intro hb h; conv => whnf
    refine br.h2 h ?_ ?_ ?_
    · rfl
    · clear h; intro hb h; conv => whnf
      all_goals (cases h; cases hc)
      all_goals exact rfl
    clear h; intro hb h; conv => whnf
    refine br.h2 h ?_ ?_ ?_
    · rfl
    · clear h; intro hb h; conv => whnf
      all_goals (cases h; cases hc)
      all_goals exact rfl
    clear h; intro hb h; conv => whnf
    refine br.h2 h ?_ ?_ ?_
    · rfl
    · clear h; intro hb h; conv => whnf
      all_goals (cases h; cases hc)
      all_goals exact rfl
    clear h; intro hb h; conv => whnf
    obtain ⟨s2, hy, h2⟩ := obind.elim h; clear h; have h := h2; clear h2
    refine sumK.introF [] (sumRun_of (aqs := [.v (.string ⟨⟨turned⟩⟩)]) (ra_cons rfl ra_nil) (r29_eq hy) rfl rfl rfl rfl) ?_
    conv => whnf
    let t6 : Int := wI .i64 ((wI .i64 (s.tdiv 256)) + (wI .i64 ((s.tmod 256) * 256)))
    refine br.h2 h ?_ ?_ ?_
    · rfl
    · clear h; intro hb h; conv => whnf
      all_goals (cases h; cases hc)
      all_goals exact rfl
    clear h; intro hb h; conv => whnf
    obtain ⟨a5, hy, h2⟩ := obind.elim h; clear h; have h := h2; clear h2
    refine sumK.introF [] (sumRun_of (aqs := []) ra_nil (r28_eq hy) rfl rfl rfl rfl) ?_
    conv => whnf
    all_goals (cases h; cases hc)
    all_goals exact rfl
  clear h; intro hb h; conv => whnf
  refine br.h2 h ?_ ?_ ?_
  · rfl
  · clear h; intro hb h; conv => whnf
    replace h := oreq.elim h; have hb := h.1; replace h := h.2
    first | (refine req.intro hb ?_; conv => whnf) | skip
    let t4 : List UInt8 := ((a ++ b).drop (wI .i64 (i + 1)).toNat).take ((wI .i64 (i + 2)).toNat - (wI .i64 (i + 1)).toNat)
    replace h := oreq.elim h; have hb := h.1; replace h := h.2
    first | (refine req.intro hb ?_; conv => whnf) | skip
    replace h := oreq.elim h; have hb := h.1; replace h := h.2
    first | (refine req.intro hb ?_; conv => whnf) | skip
    let t5 : List UInt8 := ((a ++ b).drop i.toNat).take ((wI .i64 (i + 1)).toNat - i.toNat)
    replace h := oreq.elim h; have hb := h.1; replace h := h.2
    first | (refine req.intro hb ?_; conv => whnf) | skip
    cases h; simp only [Sum.elim_inl, Sum.elim_inr, head7_1] at hc
    refine Leads.re hc [] rfl ?_ ?_ <;> (repeat' first | exact trivial | refine ⟨⟨_, rfl, rfl⟩, ?_⟩ | refine ⟨⟨_, _, rfl, rfl, .rowF (vI_flat _ _) id⟩, ?_⟩ | refine ⟨⟨_, _, rfl, rfl, .rowF (vS_flat _) id⟩, ?_⟩ | refine ⟨⟨_, _, rfl, rfl, .rowF (vB_flat _) id⟩, ?_⟩ | refine ⟨⟨_, _, rfl, rfl, .cells rfl⟩, ?_⟩ | refine ⟨⟨_, _, rfl, rfl, .row rfl id⟩, ?_⟩ | refine ⟨⟨_, _, rfl, rfl, .cr rfl⟩, ?_⟩ | refine ⟨⟨_, _, rfl, rfl, .rc rfl⟩, ?_⟩ | refine ⟨⟨_, _, rfl, rfl, .marks⟩, ?_⟩ | refine ⟨⟨_, _, rfl, rfl, .siter _ _⟩, ?_⟩ | refine ⟨⟨_, _, rfl, rfl, .loop rfl rfl rfl rfl (by repeat' first | exact trivial | refine ⟨rfl, ?_⟩) rfl rfl rfl rfl⟩, ?_⟩)
  clear h; intro hb h; conv => whnf
  replace h := oreq.elim h; have hb := h.1; replace h := h.2
  first | (refine req.intro hb ?_; conv => whnf) | skip
  obtain ⟨b1, hy, h2⟩ := obind.elim h; clear h; have h := h2; clear h2
  refine rdS.intro hy ?_
  conv => whnf
  refine br.h2 h ?_ ?_ ?_
  · rfl
  · clear h; intro hb h; conv => whnf
    replace h := oreq.elim h; have hb := h.1; replace h := h.2
    first | (refine req.intro hb ?_; conv => whnf) | skip
    let t2 : List UInt8 := ((a ++ b).drop (wI .i64 (i + 1)).toNat).take ((wI .i64 (i + 2)).toNat - (wI .i64 (i + 1)).toNat)
    replace h := oreq.elim h; have hb := h.1; replace h := h.2
    first | (refine req.intro hb ?_; conv => whnf) | skip
    replace h := oreq.elim h; have hb := h.1; replace h := h.2
    first | (refine req.intro hb ?_; conv => whnf) | skip
    let t3 : List UInt8 := ((a ++ b).drop i.toNat).take ((wI .i64 (i + 1)).toNat - i.toNat)
    replace h := oreq.elim h; have hb := h.1; replace h := h.2
    first | (refine req.intro hb ?_; conv => whnf) | skip
    cases h; simp only [Sum.elim_inl, Sum.elim_inr, head7_1] at hc
    refine Leads.re hc [] rfl ?_ ?_ <;> (repeat' first | exact trivial | refine ⟨⟨_, rfl, rfl⟩, ?_⟩ | refine ⟨⟨_, _, rfl, rfl, .rowF (vI_flat _ _) id⟩, ?_⟩ | refine ⟨⟨_, _, rfl, rfl, .rowF (vS_flat _) id⟩, ?_⟩ | refine ⟨⟨_, _, rfl, rfl, .rowF (vB_flat _) id⟩, ?_⟩ | refine ⟨⟨_, _, rfl, rfl, .cells rfl⟩, ?_⟩ | refine ⟨⟨_, _, rfl, rfl, .row rfl id⟩, ?_⟩ | refine ⟨⟨_, _, rfl, rfl, .cr rfl⟩, ?_⟩ | refine ⟨⟨_, _, rfl, rfl, .rc rfl⟩, ?_⟩ | refine ⟨⟨_, _, rfl, rfl, .marks⟩, ?_⟩ | refine ⟨⟨_, _, rfl, rfl, .siter _ _⟩, ?_⟩ | refine ⟨⟨_, _, rfl, rfl, .loop rfl rfl rfl rfl (by repeat' first | exact trivial | refine ⟨rfl, ?_⟩) rfl rfl rfl rfl⟩, ?_⟩)
  clear h; intro hb h; conv => whnf
  replace h := oreq.elim h; have hb := h.1; replace h := h.2
  first | (refine req.intro hb ?_; conv => whnf) | skip
  obtain ⟨b2, hy, h2⟩ := obind.elim h; clear h; have h := h2; clear h2
  refine rdS.intro hy ?_
  conv => whnf
  replace h := oreq.elim h; have hb := h.1; replace h := h.2
  first | (refine req.intro hb ?_; conv => whnf) | skip
  let t : List UInt8 := ((a ++ b).drop (wI .i64 (i + 1)).toNat).take ((wI .i64 (i + 2)).toNat - (wI .i64 (i + 1)).toNat)
  replace h := oreq.elim h; have hb := h.1; replace h := h.2
  first | (refine req.intro hb ?_; conv => whnf) | skip
  replace h := oreq.elim h; have hb := h.1; replace h := h.2
  first | (refine req.intro hb ?_; conv => whnf) | skip
  let t1 : List UInt8 := ((a ++ b).drop i.toNat).take ((wI .i64 (i + 1)).toNat - i.toNat)
  replace h := oreq.elim h; have hb := h.1; replace h := h.2
  first | (refine req.intro hb ?_; conv => whnf) | skip
  cases h; simp only [Sum.elim_inl, Sum.elim_inr, head7_1] at hc
  refine Leads.re hc [] rfl ?_ ?_ <;> (repeat' first | exact trivial | refine ⟨⟨_, rfl, rfl⟩, ?_⟩ | refine ⟨⟨_, _, rfl, rfl, .rowF (vI_flat _ _) id⟩, ?_⟩ | refine ⟨⟨_, _, rfl, rfl, .rowF (vS_flat _) id⟩, ?_⟩ | refine ⟨⟨_, _, rfl, rfl, .rowF (vB_flat _) id⟩, ?_⟩ | refine ⟨⟨_, _, rfl, rfl, .cells rfl⟩, ?_⟩ | refine ⟨⟨_, _, rfl, rfl, .row rfl id⟩, ?_⟩ | refine ⟨⟨_, _, rfl, rfl, .cr rfl⟩, ?_⟩ | refine ⟨⟨_, _, rfl, rfl, .rc rfl⟩, ?_⟩ | refine ⟨⟨_, _, rfl, rfl, .marks⟩, ?_⟩ | refine ⟨⟨_, _, rfl, rfl, .siter _ _⟩, ?_⟩ | refine ⟨⟨_, _, rfl, rfl, .loop rfl rfl rfl rfl (by repeat' first | exact trivial | refine ⟨rfl, ?_⟩) rfl rfl rfl rfl⟩, ?_⟩)
theorem leads7 (law03_awake : Option Bool) (check_Sum : (List UInt8) → Option Int) (hS : SumsOK Try.prog (aget (sums7 law03_awake check_Sum))) (a : List UInt8) (b : List UInt8) (res : Bool) (h : law03_CheckOrderF law03_awake check_Sum a b = some res) :
    Leads Try.prog 7 0 ⟨⟨7, 104, [(0, .string ⟨⟨a⟩⟩), (1, .string ⟨⟨b⟩⟩)], [.code k7_32], [], false, none⟩, [], [], 0⟩ (fun v H _ => post7 res v H) := by
  unfold law03_CheckOrderF at h
  refine ev_ok tab_ok hS true 3000 ?_
  conv => whnf
  refine br.h h ?_ ?_ ?_
  · rfl
  · clear h; intro hb h; conv => whnf
    obtain ⟨a1, hy, h2⟩ := obind.elim h; clear h; have h := h2; clear h2
    refine sumK.introF [] (sumRun_of (aqs := []) ra_nil (r28_eq hy) rfl rfl rfl rfl) ?_
    conv => whnf
    all_goals (cases h)
    all_goals exact rfl
  clear h; intro hb h; conv => whnf
  refine br.h h ?_ ?_ ?_
  · rfl
  · clear h; intro hb h; conv => whnf
    obtain ⟨a2, hy, h2⟩ := obind.elim h; clear h; have h := h2; clear h2
    refine sumK.introF [] (sumRun_of (aqs := []) ra_nil (r28_eq hy) rfl rfl rfl rfl) ?_
    conv => whnf
    all_goals (cases h)
    all_goals exact rfl
  clear h; intro hb h; conv => whnf
  refine br.h h ?_ ?_ ?_
  · rfl
  · clear h; intro hb h; conv => whnf
    obtain ⟨a3, hy, h2⟩ := obind.elim h; clear h; have h := h2; clear h2
    refine sumK.introF [] (sumRun_of (aqs := []) ra_nil (r28_eq hy) rfl rfl rfl rfl) ?_
    conv => whnf
    all_goals (cases h)
    all_goals exact rfl
  clear h; intro hb h; conv => whnf
  refine br.h h ?_ ?_ ?_
  · rfl
  · clear h; intro hb h; conv => whnf
    obtain ⟨a4, hy, h2⟩ := obind.elim h; clear h; have h := h2; clear h2
    refine sumK.introF [] (sumRun_of (aqs := []) ra_nil (r28_eq hy) rfl rfl rfl rfl) ?_
    conv => whnf
    all_goals (cases h)
    all_goals exact rfl
  clear h; intro hb h; conv => whnf
  replace h := oreq.elim h; have hb := h.1; replace h := h.2
  first | (refine req.intro hb ?_; conv => whnf) | skip
  have hl := loop7_1 law03_awake check_Sum hS _ _ res _ _ _ h rfl; simp only [head7_1] at hl
  refine Leads.re hl [] rfl ?_ ?_ <;> (repeat' first | exact trivial | refine ⟨⟨_, rfl, rfl⟩, ?_⟩ | refine ⟨⟨_, _, rfl, rfl, .rowF (vI_flat _ _) id⟩, ?_⟩ | refine ⟨⟨_, _, rfl, rfl, .rowF (vS_flat _) id⟩, ?_⟩ | refine ⟨⟨_, _, rfl, rfl, .rowF (vB_flat _) id⟩, ?_⟩ | refine ⟨⟨_, _, rfl, rfl, .cells rfl⟩, ?_⟩ | refine ⟨⟨_, _, rfl, rfl, .row rfl id⟩, ?_⟩ | refine ⟨⟨_, _, rfl, rfl, .cr rfl⟩, ?_⟩ | refine ⟨⟨_, _, rfl, rfl, .rc rfl⟩, ?_⟩ | refine ⟨⟨_, _, rfl, rfl, .marks⟩, ?_⟩ | refine ⟨⟨_, _, rfl, rfl, .siter _ _⟩, ?_⟩ | refine ⟨⟨_, _, rfl, rfl, .loop rfl rfl rfl rfl (by repeat' first | exact trivial | refine ⟨rfl, ?_⟩) rfl rfl rfl rfl⟩, ?_⟩)
theorem ok7 (law03_awake : Option Bool) (check_Sum : (List UInt8) → Option Int) (hS : SumsOK Try.prog (aget (sums7 law03_awake check_Sum))) : SumOK Try.prog 7 (s7 (law03_CheckOrderF law03_awake check_Sum)) := by
  refine SumOK.of_leads tab_ok (fun ar r ha hr => ?_) ⟨Try.f7, rfl, by decide, rfl⟩
  simp only [s7] at ha hr
  unfold r7 at hr
  split at hr <;> try (cases hr; done)
  split at hr <;> cases hr
  rename_i x h
  refine ⟨_, rfl, (leads7 law03_awake check_Sum hS _ _ x h).mono fun v H t hp => ?_⟩
  cases hp
  exact Res.val rfl trivial
def law03_CheckOrder : (List UInt8) → (List UInt8) → Option Bool := law03_CheckOrderF law03_awake check_Sum
theorem lift7 : SumOK Try.prog 7 (s7 law03_CheckOrder) := ok7 law03_awake check_Sum (SumsOK.of_tab ⟨lift28, lift29, trivial⟩)
end Go.Vm.Code

/- CheckOrder, in plain words. -/
namespace Go.Vm.Code
open Go Go.Vm

/-- two bytes turned round in all words -/
def swp : List UInt8 → List UInt8
  | b :: c :: l => c :: b :: swp l
  | l => l
theorem wsum_append : ∀ (a b : List UInt8), a.length % 2 = 0 → wsum (a ++ b) = wsum a + wsum b
  | [], b, _ => by simp [wsum]
  | [_], b, h => by simp at h
  | x :: y :: a, b, h => by
    have := wsum_append a b (by simp at h; omega)
    simp only [List.cons_append, wsum, this]; omega
theorem swp_snoc : ∀ (a : List UInt8) (x y : UInt8), a.length % 2 = 0 → swp (a ++ [x, y]) = swp a ++ [y, x]
  | [], x, y, _ => rfl
  | [_], _, _, h => by simp at h
  | u :: v :: a, x, y, h => by
    have := swp_snoc a x y (by simp at h; omega)
    simp only [List.cons_append, swp, this]
theorem swp_len : ∀ a : List UInt8, (swp a).length = a.length
  | [] => rfl
  | [_] => rfl
  | _ :: _ :: a => by simp [swp, swp_len a]
theorem wsum_swp : ∀ a : List UInt8, a.length % 2 = 0 → wsum (swp a) % 65535 = (256 * wsum a) % 65535 ∧ (wsum (swp a) = 0 ↔ wsum a = 0)
  | [], _ => by simp [swp, wsum]
  | [_], h => by simp at h
  | x :: y :: a, h => by
    obtain ⟨h1, h2⟩ := wsum_swp a (by simp at h; omega)
    have hx := x.toNat_lt
    have hy := y.toNat_lt
    simp only [swp, wsum]
    omega
theorem norm_swp (a : List UInt8) (h : a.length % 2 = 0) : norm (wsum (swp a)) = norm (wsum a) / 256 + norm (wsum a) % 256 * 256 := by
  obtain ⟨h1, h2⟩ := wsum_swp a h
  have g1 := norm_le (wsum a)
  have g2 := norm_mod (wsum a)
  have g3 := norm_zero (wsum a)
  exact norm_eq (by omega) (by omega) (by omega)
/-- are all bytes 0? -/
def allz (l : List UInt8) : Bool := l.all fun b => b == 0
theorem wsum_zero : ∀ a : List UInt8, a.length % 2 = 0 → (wsum a = 0 ↔ allz a = true)
  | [], _ => by simp [wsum, allz]
  | [_], h => by simp at h
  | x :: y :: a, h => by
    have h1 := wsum_zero a (by simp at h; omega)
    have ex : (x == 0) = true ↔ x.toNat = 0 := by rw [beq_iff_eq]; exact ⟨fun e => by rw [e]; rfl, fun e => UInt8.toNat_inj.1 e⟩
    have ey : (y == 0) = true ↔ y.toNat = 0 := by rw [beq_iff_eq]; exact ⟨fun e => by rw [e]; rfl, fun e => UInt8.toNat_inj.1 e⟩
    have e : allz (x :: y :: a) = (x == 0 && (y == 0 && allz a)) := rfl
    rw [e, Bool.and_eq_true, Bool.and_eq_true, ex, ey, ← h1, wsum]
    omega
theorem take1 {l : List UInt8} {i : Nat} (h : i < l.length) : (l.drop i).take 1 = [l[i]] := by
  rw [List.drop_eq_getElem_cons h]; rfl
theorem take2 {l : List UInt8} {i : Nat} (h : i + 1 < l.length) : l.take (i + 2) = l.take i ++ [l[i], l[i + 1]] := by
  have e1 := List.take_succ_eq_append_getElem h
  have e2 := List.take_succ_eq_append_getElem (show i < l.length by omega)
  rw [show i + 2 = (i + 1) + 1 from rfl, e1, e2, List.append_assoc]; rfl
theorem bz (b : UInt8) : ((b.toNat : Int) == 0) = (b == 0) := by
  by_cases h : b = 0
  · subst h; rfl
  · have : b.toNat ≠ 0 := fun e => h (UInt8.toNat_inj.1 e)
    rw [beq_eq_false_iff_ne.2 h]; simp; exact this

theorem awake03 : law03_awake = some true := by decide +kernel

theorem checkOrder (a b : List UInt8) : law03_CheckOrder a b = some true := by
  unfold law03_CheckOrder law03_CheckOrderF
  rw [awake03]
  by_cases ha : a.length > 100
  · rw [cond_p (by omega)]; rfl
  rw [cond_n (by omega)]
  by_cases hb : b.length > 100
  · rw [cond_p (by omega)]; rfl
  rw [cond_n (by omega)]
  have ea : ((a.length : Int).tmod 2 == 1) = decide (a.length % 2 = 1) := by
    rw [Int.tmod_eq_emod_of_nonneg (by omega), Bool.eq_iff_iff, beq_iff_eq, decide_eq_true_eq]; omega
  have eb : ((b.length : Int).tmod 2 == 1) = decide (b.length % 2 = 1) := by
    rw [Int.tmod_eq_emod_of_nonneg (by omega), Bool.eq_iff_iff, beq_iff_eq, decide_eq_true_eq]; omega
  rw [ea, eb]
  by_cases ha2 : a.length % 2 = 1
  · rw [cond_p ha2]; rfl
  rw [cond_n ha2]
  by_cases hb2 : b.length % 2 = 1
  · rw [cond_p hb2]; rfl
  rw [cond_n hb2, oreq_p (by omega)]
  have eab : wsum (b ++ a) = wsum (a ++ b) := by rw [wsum_append _ _ (by omega), wsum_append _ _ (by omega), Nat.add_comm]
  have hlen : (a ++ b).length = a.length + b.length := List.length_append
  have hlen2 : (b ++ a).length = b.length + a.length := List.length_append
  refine iter_eq (fun _ => true) (fun (st : Bool × List UInt8 × Int) => ∃ i : Nat, st.2.2 = i ∧ i % 2 = 0 ∧ i ≤ (a ++ b).length ∧ st.2.1 = swp ((a ++ b).take i) ∧ st.1 = allz ((a ++ b).take i)) (fun (st : Bool × List UInt8 × Int) => ((a ++ b).length - st.2.2).toNat) ?_ FUEL _ ⟨0, rfl, rfl, by omega, rfl, rfl⟩ (by rw [FUEL_eq]; simp only; omega)
  rintro ⟨z, t, p⟩ ⟨i, h1, h2, h3, h4, h5⟩
  simp only at h1 h4 h5 ⊢
  subst h1 h4 h5
  unfold law03_CheckOrder_s1
  generalize hc : a ++ b = c at *
  by_cases hi : i < c.length
  · have hi2 : i + 1 < c.length := by omega
    have ht : (c.take i).length % 2 = 0 := by rw [List.length_take]; omega
    have hz : allz (c.take (i + 2)) = (allz (c.take i) && (c[i] == 0 && c[i + 1] == 0)) := by
      rw [take2 hi2]; simp [allz]
    refine .inr ⟨(allz (c.take (i + 2)), swp (c.take (i + 2)), ((i + 2 : Nat) : Int)), ?_, ⟨i + 2, rfl, by omega, by omega, rfl, rfl⟩, by simp only; omega, trivial⟩
    have hs : swp (c.take (i + 2)) = swp (c.take i) ++ [c[i + 1]] ++ [c[i]] := by rw [take2 hi2, swp_snoc _ _ _ ht]; simp
    have hl : (swp (c.take i)).length ≤ 200 := by rw [swp_len, List.length_take]; omega
    have e1 : ((i : Int) + 1).toNat = i + 1 := by omega
    have e2 : ((i : Int) + 2).toNat = i + 2 := by omega
    have e3 : i + 2 - (i + 1) = 1 := by omega
    have e4 : i + 1 - i = 1 := by omega
    rw [hs, hz, cond_p (by omega)]
    simp (disch := omega) only [wI64, oreq_p, e1, e2, e3, e4, Int.toNat_natCast, take1 hi, take1 hi2, List.getElem?_eq_getElem, Option.bind_some, bz, List.length_cons, List.length_nil, List.length_append]
    cases allz (c.take i)
    · simp
    · cases hb0 : (c[i] == 0) <;> simp
  · refine .inl ?_
    obtain rfl : i = c.length := by omega
    rw [cond_n (by omega), sum_eq c (by omega), Option.bind_some, oreq_p (by omega), sum_eq (b ++ a) (by omega), Option.bind_some, eab, List.take_length]
    have g := norm_le (wsum c)
    have gz := norm_zero (wsum c)
    have gs := norm_swp c (by omega)
    rw [sum_eq (swp c) (by rw [swp_len]; omega), Option.bind_some, gs]
    have e5 : (((norm (wsum c) : Nat) : Int) == 0) = allz c := by
      have := wsum_zero c (by omega)
      rw [Bool.eq_iff_iff, ← this, beq_iff_eq]; omega
    have e6 : wI .i64 (wI .i64 (((norm (wsum c) : Nat) : Int).tdiv 256) + wI .i64 ((((norm (wsum c) : Nat) : Int).tmod 256) * 256)) = ((norm (wsum c) / 256 + norm (wsum c) % 256 * 256 : Nat) : Int) := by
      rw [Int.tdiv_eq_ediv_of_nonneg (by omega), Int.tmod_eq_emod_of_nonneg (by omega), wI64 (n := _ / 256) (by omega) (by omega), wI64 (n := _ % 256 * 256) (by omega) (by omega), wI64 (by omega) (by omega)]; omega
    simp only [e5, e6, beq_self_eq_true, cond_true]
    rw [cond_p (by omega), cond_p (by omega)]
    rfl
end Go.Vm.Code

namespace Go.Vm.Code
open Go Go.Vm Go.Proofs
set_option maxRecDepth 100000
set_option maxHeartbeats 4000000
set_option linter.unusedVariables false

/-! cloakroom/cloakroomref03.Set -/
def R03_SetF (R02_Get : (List UInt8) → Int → Int → Option (Int × Bool)) (R02_Put : Int → Int → Option (List UInt8)) (s : List UInt8) (ata1 : Int) (k : Int) (n : Int) : Option (List UInt8) :=
  (R02_Get s ata1 k).bind fun xg =>
  cond (!xg.2)
    (
    some (s))
    (
    oreq (decide ((0 : Int) ≤ ata1 ∧ ata1 ≤ (s.length : Int))) <|
    (R02_Put n k).bind fun p =>
    oreq (decide ((s.take ata1.toNat).length + p.length < 2 ^ 63)) <|
    oreq (decide ((0 : Int) ≤ (wI .i64 (ata1 + k)) ∧ (wI .i64 (ata1 + k)) ≤ (s.length : Int))) <|
    let t := (s.drop (wI .i64 (ata1 + k)).toNat).take (s.length - (wI .i64 (ata1 + k)).toNat)
    oreq (decide (((s.take ata1.toNat) ++ p).length + t.length < 2 ^ 63)) <|
    some (((s.take ata1.toNat) ++ p) ++ t))
def post48 (x : List UInt8) (v : Value) (H : Hp) : Prop := v = .string ⟨⟨x⟩⟩
def r48 (g : (List UInt8) → Int → Int → Int → Option (List UInt8)) : List SArg → Option SRes
  | [.v (.string ⟨⟨a0_1⟩⟩), .v (.int .i64 a1_1), .v (.int .i64 a2_1), .v (.int .u64 a3_1)] => match g a0_1 a1_1 a2_1 a3_1 with | some x => some ⟨.string ⟨⟨x⟩⟩, [], []⟩ | none => none
  | _ => none
def s48 (g : (List UInt8) → Int → Int → Int → Option (List UInt8)) : Summ := ⟨[.v, .v, .v, .v], r48 g⟩
theorem r48_eq {g : (List UInt8) → Int → Int → Int → Option (List UInt8)} {a0_1 : List UInt8} {a1_1 : Int} {a2_1 : Int} {a3_1 : Int} {x : List UInt8} (hx : g a0_1 a1_1 a2_1 a3_1 = some x) : (s48 g).run [.v (.string ⟨⟨a0_1⟩⟩), .v (.int .i64 a1_1), .v (.int .i64 a2_1), .v (.int .u64 a3_1)] = some ⟨.string ⟨⟨x⟩⟩, [], []⟩ := by
  show r48 g [.v (.string ⟨⟨a0_1⟩⟩), .v (.int .i64 a1_1), .v (.int .i64 a2_1), .v (.int .u64 a3_1)] = _
  simp only [r48, hx]
abbrev sums48 (R02_Get : (List UInt8) → Int → Int → Option (Int × Bool)) (R02_Put : Int → Int → Option (List UInt8)) : List (Nat × Summ) := [(75, s75 R02_Get), (76, s76 R02_Put)]
theorem leads48 (R02_Get : (List UInt8) → Int → Int → Option (Int × Bool)) (R02_Put : Int → Int → Option (List UInt8)) (hS : SumsOK Try.prog (aget (sums48 R02_Get R02_Put))) (s : List UInt8) (ata1 : Int) (k : Int) (n : Int) (res : List UInt8) (h : R03_SetF R02_Get R02_Put s ata1 k n = some res) :
    Leads Try.prog 48 0 ⟨⟨48, 34, [(0, .string ⟨⟨s⟩⟩), (1, .int .i64 ata1), (2, .int .i64 k), (3, .int .u64 n)], [.code k48_11], [], false, none⟩, [], [], 0⟩ (fun v H _ => post48 res v H) := by
  unfold R03_SetF at h
  refine ev_ok tab_ok hS true 3000 ?_
  conv => whnf
  obtain ⟨xg, hy, h2⟩ := obind.elim h; clear h; have h := h2; clear h2
  refine sumK.introF [] (sumRun_of (aqs := [.v (.string ⟨⟨s⟩⟩), .v (.int .i64 ata1), .v (.int .i64 k)]) (ra_cons rfl (ra_cons rfl (ra_cons rfl ra_nil))) (r75_eq hy) rfl rfl rfl rfl) ?_
  conv => whnf
  refine br.h h ?_ ?_ ?_
  · rfl
  · clear h; intro hb h; conv => whnf
    all_goals (cases h)
    all_goals exact rfl
  clear h; intro hb h; conv => whnf
  replace h := oreq.elim h; have hb := h.1; replace h := h.2
  first | (refine req.intro hb ?_; conv => whnf) | skip
  obtain ⟨p, hy, h2⟩ := obind.elim h; clear h; have h := h2; clear h2
  refine sumK.introF [] (sumRun_of (aqs := [.v (.int .u64 n), .v (.int .i64 k)]) (ra_cons rfl (ra_cons rfl ra_nil)) (r76_eq hy) rfl rfl rfl rfl) ?_
  conv => whnf
  replace h := oreq.elim h; have hb := h.1; replace h := h.2
  first | (refine req.intro hb ?_; conv => whnf) | skip
  replace h := oreq.elim h; have hb := h.1; replace h := h.2
  first | (refine req.intro hb ?_; conv => whnf) | skip
  let t : List UInt8 := (s.drop (wI .i64 (ata1 + k)).toNat).take (s.length - (wI .i64 (ata1 + k)).toNat)
  replace h := oreq.elim h; have hb := h.1; replace h := h.2
  first | (refine req.intro hb ?_; conv => whnf) | skip
  all_goals (cases h)
  all_goals exact rfl
theorem ok48 (R02_Get : (List UInt8) → Int → Int → Option (Int × Bool)) (R02_Put : Int → Int → Option (List UInt8)) (hS : SumsOK Try.prog (aget (sums48 R02_Get R02_Put))) : SumOK Try.prog 48 (s48 (R03_SetF R02_Get R02_Put)) := by
  refine SumOK.of_leads tab_ok (fun ar r ha hr => ?_) ⟨Try.f48, rfl, by decide, rfl⟩
  simp only [s48] at ha hr
  unfold r48 at hr
  split at hr <;> try (cases hr; done)
  split at hr <;> cases hr
  rename_i x h
  refine ⟨_, rfl, (leads48 R02_Get R02_Put hS _ _ _ _ x h).mono fun v H t hp => ?_⟩
  cases hp
  exact Res.val rfl trivial
def R03_Set : (List UInt8) → Int → Int → Int → Option (List UInt8) := R03_SetF R02_Get R02_Put
theorem lift48 : SumOK Try.prog 48 (s48 R03_Set) := ok48 R02_Get R02_Put (SumsOK.of_tab ⟨lift75, lift76, trivial⟩)
end Go.Vm.Code

namespace Go.Vm.Code
open Go Go.Vm Go.Proofs
set_option maxRecDepth 100000
set_option maxHeartbeats 4000000
set_option linter.unusedVariables false

/-! cloakroom/check.may -/
def check_may_s1 (l : List Int) (t7 : Int) : Option (Sum Int Bool) :=
  cond (decide (t7 < (l.length : Int)))
    (
    oreq (decide ((0 : Int) ≤ t7 ∧ t7 < (l.length : Int))) <|
    (l[t7.toNat]?).bind fun (e : Int) =>
    cond (decide (e < 0))
      (
      some (.inr (false)))
      (
      cond (decide (e > 65535))
        (
        some (.inr (false)))
        (
        some (.inl (wI .i64 (t7 + 1))))))
    (
    some (.inr (true)))
def check_mayF (l : List Int) : Option Bool :=
  iter (fun st => check_may_s1 l st) FUEL 0
def post71 (x : Bool) (v : Value) (H : Hp) : Prop := v = .bool x
def r71 (g : (List Int) → Option Bool) : List SArg → Option SRes
  | [.sl n0 cs0] => match unL (asI .i64) cs0 with | some y0 => (match g y0 with | some x => some ⟨.bool x, [], []⟩ | none => none) | none => none
  | _ => none
def s71 (g : (List Int) → Option Bool) : Summ := ⟨[.sl 1], r71 g⟩
theorem r71_eq {g : (List Int) → Option Bool} {y0 : List Int} {x : Bool} (hx : g y0 = some x) : (s71 g).run [.sl y0.length (vI .i64 y0)] = some ⟨.bool x, [], []⟩ := by
  show r71 g [.sl y0.length (vI .i64 y0)] = _
  simp only [r71, unI_vI, hx]
abbrev sums71 : List (Nat × Summ) := []
def head71_1 (l : List Int) (t7 : Int) : VM :=
  ⟨⟨71, 18, [(5, .slice (some ⟨0, 0, none⟩) l.length 1), (6, .int .i64 (l.length : Int)), (7, .int .i64 t7)], [.code k71_15, .inLoop k71_15, .inBlock 0, .code k71_20], [], false, none⟩, [], [(0, .row false (vI .i64 l))], 1⟩
theorem loop71_1 (hS : SumsOK Try.prog (aget (sums71))) (l : List Int) (res : Bool) : ∀ fuel (st : Int) (o : Bool), iter (fun st => check_may_s1 l st) fuel st = some o → (o = res) →
    Leads Try.prog 71 1 (head71_1 l st) (fun v H _ => post71 res v H) := by
  intro fuel st o h hc
  refine iter_leads (head := fun st => head71_1 l st) (C := fun o => (o = res)) ?_ fuel st o h hc
  clear h hc o st fuel
  intro t7 o h hc
  replace h : check_may_s1 l t7 = some o := h
  show Leads Try.prog 71 1 (head71_1 l t7) (fun v H _ => post71 res v H)
  unfold check_may_s1 at h
  refine ev_ok tab_ok hS true 3000 ?_
  conv => whnf
  refine br.h2 h ?_ ?_ ?_
  · rfl
  · clear h; intro hb h; conv => whnf
    all_goals (cases h; cases hc)
    all_goals exact rfl
  clear h; intro hb h; conv => whnf
  replace h := oreq.elim h; have hb := h.1; replace h := h.2
  first | (refine req.intro hb ?_; conv => whnf) | skip
  obtain ⟨e, hy, h2⟩ := obind.elim h; clear h; have h := h2; clear h2
  refine rd.I hy (by first | rfl | (rw [Nat.zero_add, Nat.mul_one]; done) | omega) ?_
  conv => whnf
  refine br.h h ?_ ?_ ?_
  · rfl
  · clear h; intro hb h; conv => whnf
    all_goals (cases h; cases hc)
    all_goals exact rfl
  clear h; intro hb h; conv => whnf
  refine br.h h ?_ ?_ ?_
  · rfl
  · clear h; intro hb h; conv => whnf
    all_goals (cases h; cases hc)
    all_goals exact rfl
  clear h; intro hb h; conv => whnf
  cases h; simp only [Sum.elim_inl, Sum.elim_inr, head71_1] at hc
  refine Leads.re hc [(0, 0)] rfl ?_ ?_ <;> (repeat' first | exact trivial | refine ⟨⟨_, rfl, rfl⟩, ?_⟩ | refine ⟨⟨_, _, rfl, rfl, .rowF (vI_flat _ _) id⟩, ?_⟩ | refine ⟨⟨_, _, rfl, rfl, .rowF (vS_flat _) id⟩, ?_⟩ | refine ⟨⟨_, _, rfl, rfl, .rowF (vB_flat _) id⟩, ?_⟩ | refine ⟨⟨_, _, rfl, rfl, .cells rfl⟩, ?_⟩ | refine ⟨⟨_, _, rfl, rfl, .row rfl id⟩, ?_⟩ | refine ⟨⟨_, _, rfl, rfl, .cr rfl⟩, ?_⟩ | refine ⟨⟨_, _, rfl, rfl, .rc rfl⟩, ?_⟩ | refine ⟨⟨_, _, rfl, rfl, .marks⟩, ?_⟩ | refine ⟨⟨_, _, rfl, rfl, .siter _ _⟩, ?_⟩ | refine ⟨⟨_, _, rfl, rfl, .loop rfl rfl rfl rfl (by repeat' first | exact trivial | refine ⟨rfl, ?_⟩) rfl rfl rfl rfl⟩, ?_⟩)
theorem leads71 (hS : SumsOK Try.prog (aget (sums71))) (l : List Int) (res : Bool) (h : check_mayF l = some res) :
    Leads Try.prog 71 1 ⟨⟨71, 18, [(0, .slice (some ⟨0, 0, none⟩) l.length 1)], [.code k71_22], [], false, none⟩, [], [(0, .row false (vI .i64 l))], 1⟩ (fun v H _ => post71 res v H) := by
  unfold check_mayF at h
  refine ev_ok tab_ok hS true 3000 ?_
  conv => whnf
  have hl := loop71_1 hS _ res _ _ _ h rfl; simp only [head71_1] at hl
  refine Leads.re hl [(0, 0)] rfl ?_ ?_ <;> (repeat' first | exact trivial | refine ⟨⟨_, rfl, rfl⟩, ?_⟩ | refine ⟨⟨_, _, rfl, rfl, .rowF (vI_flat _ _) id⟩, ?_⟩ | refine ⟨⟨_, _, rfl, rfl, .rowF (vS_flat _) id⟩, ?_⟩ | refine ⟨⟨_, _, rfl, rfl, .rowF (vB_flat _) id⟩, ?_⟩ | refine ⟨⟨_, _, rfl, rfl, .cells rfl⟩, ?_⟩ | refine ⟨⟨_, _, rfl, rfl, .row rfl id⟩, ?_⟩ | refine ⟨⟨_, _, rfl, rfl, .cr rfl⟩, ?_⟩ | refine ⟨⟨_, _, rfl, rfl, .rc rfl⟩, ?_⟩ | refine ⟨⟨_, _, rfl, rfl, .marks⟩, ?_⟩ | refine ⟨⟨_, _, rfl, rfl, .siter _ _⟩, ?_⟩ | refine ⟨⟨_, _, rfl, rfl, .loop rfl rfl rfl rfl (by repeat' first | exact trivial | refine ⟨rfl, ?_⟩) rfl rfl rfl rfl⟩, ?_⟩)
theorem ok71 (hS : SumsOK Try.prog (aget (sums71))) : SumOK Try.prog 71 (s71 (check_mayF)) := by
  refine SumOK.of_leads tab_ok (fun ar r ha hr => ?_) ⟨Try.f71, rfl, by decide, rfl⟩
  simp only [s71] at ha hr
  unfold r71 at hr
  split at hr <;> try (cases hr; done)
  split at hr <;> try (cases hr; done)
  rename_i y0 ey0
  have ey0 := unI_eq ey0
  split at hr <;> cases hr
  rename_i x h
  subst ey0
  simp only [argsOK, vI_len, vB_len, vS_len, Nat.mul_one] at ha
  obtain ⟨hn0, -, -⟩ := ha
  subst hn0
  refine ⟨_, rfl, (leads71 hS _ x h).mono fun v H t hp => ?_⟩
  cases hp
  exact Res.val rfl trivial
def check_may : (List Int) → Option Bool := check_mayF
theorem lift71 : SumOK Try.prog 71 (s71 check_may) := ok71 (SumsOK.of_tab trivial)
end Go.Vm.Code

namespace Go.Vm.Code
open Go Go.Vm Go.Proofs
set_option maxRecDepth 100000
set_option maxHeartbeats 4000000
set_option linter.unusedVariables false

/-! cloakroom/check.Turn -/
def check_TurnF (check_fold : Int → Option Int) (check_may : (List Int) → Option Bool) (check : Int) (froma1 : Int) (to : Int) : Option Int :=
  (check_may [check, froma1, to]).bind fun m =>
  cond (!m)
    (
    some (0))
    (
    let t := wI .i64 ((wI .i64 (65535 - check)) + 65535)
    (check_fold (wI .i64 ((wI .i64 (t - froma1)) + to))).bind fun f =>
    some (wI .i64 (65535 - f)))
def post43 (x : Int) (v : Value) (H : Hp) : Prop := v = .int .i64 x
def r43 (g : Int → Int → Int → Option Int) : List SArg → Option SRes
  | [.v (.int .i64 a0_1), .v (.int .i64 a1_1), .v (.int .i64 a2_1)] => match g a0_1 a1_1 a2_1 with | some x => some ⟨.int .i64 x, [], []⟩ | none => none
  | _ => none
def s43 (g : Int → Int → Int → Option Int) : Summ := ⟨[.v, .v, .v], r43 g⟩
theorem r43_eq {g : Int → Int → Int → Option Int} {a0_1 : Int} {a1_1 : Int} {a2_1 : Int} {x : Int} (hx : g a0_1 a1_1 a2_1 = some x) : (s43 g).run [.v (.int .i64 a0_1), .v (.int .i64 a1_1), .v (.int .i64 a2_1)] = some ⟨.int .i64 x, [], []⟩ := by
  show r43 g [.v (.int .i64 a0_1), .v (.int .i64 a1_1), .v (.int .i64 a2_1)] = _
  simp only [r43, hx]
abbrev sums43 (check_fold : Int → Option Int) (check_may : (List Int) → Option Bool) : List (Nat × Summ) := [(63, s63 check_fold), (71, s71 check_may)]
theorem leads43 (check_fold : Int → Option Int) (check_may : (List Int) → Option Bool) (hS : SumsOK Try.prog (aget (sums43 check_fold check_may))) (check : Int) (froma1 : Int) (to : Int) (res : Int) (h : check_TurnF check_fold check_may check froma1 to = some res) :
    Leads Try.prog 43 0 ⟨⟨43, 22, [(0, .int .i64 check), (1, .int .i64 froma1), (2, .int .i64 to)], [.code k43_9], [], false, none⟩, [], [], 0⟩ (fun v H _ => post43 res v H) := by
  unfold check_TurnF at h
  refine ev_ok tab_ok hS true 3000 ?_
  conv => whnf
  obtain ⟨m, hy, h2⟩ := obind.elim h; clear h; have h := h2; clear h2
  refine sumK.introF [] (sumRun_of (aqs := [.sl ([check, froma1, to] : List Int).length (vI .i64 [check, froma1, to])]) (ra_cons (by first | rfl | exact ra_allI rfl rfl (by first | rfl | omega) (by first | rfl | (simp; done)) | exact ra_slI rfl rfl (by first | rfl | omega) (by first | rfl | omega) (by first | omega | (simp at *; omega))) ra_nil) (r71_eq hy) rfl rfl rfl rfl) ?_
  conv => whnf
  refine br.h h ?_ ?_ ?_
  · rfl
  · clear h; intro hb h; conv => whnf
    all_goals (cases h)
    all_goals exact rfl
  clear h; intro hb h; conv => whnf
  let t : Int := wI .i64 ((wI .i64 (65535 - check)) + 65535)
  obtain ⟨f, hy, h2⟩ := obind.elim h; clear h; have h := h2; clear h2
  refine sumK.introF [] (sumRun_of (aqs := [.v (.int .i64 (wI .i64 ((wI .i64 (t - froma1)) + to)))]) (ra_cons rfl ra_nil) (r63_eq hy) rfl rfl rfl rfl) ?_
  conv => whnf
  all_goals (cases h)
  all_goals exact rfl
theorem ok43 (check_fold : Int → Option Int) (check_may : (List Int) → Option Bool) (hS : SumsOK Try.prog (aget (sums43 check_fold check_may))) : SumOK Try.prog 43 (s43 (check_TurnF check_fold check_may)) := by
  refine SumOK.of_leads tab_ok (fun ar r ha hr => ?_) ⟨Try.f43, rfl, by decide, rfl⟩
  simp only [s43] at ha hr
  unfold r43 at hr
  split at hr <;> try (cases hr; done)
  split at hr <;> cases hr
  rename_i x h
  refine ⟨_, rfl, (leads43 check_fold check_may hS _ _ _ x h).mono fun v H t hp => ?_⟩
  cases hp
  exact Res.val rfl trivial
def check_Turn : Int → Int → Int → Option Int := check_TurnF check_fold check_may
theorem lift43 : SumOK Try.prog 43 (s43 check_Turn) := ok43 check_fold check_may (SumsOK.of_tab ⟨lift63, lift71, trivial⟩)
end Go.Vm.Code

namespace Go.Vm.Code
open Go Go.Vm Go.Proofs
set_option maxRecDepth 100000
set_option maxHeartbeats 4000000
set_option linter.unusedVariables false

/-! cloakroom/check.Turned -/
def check_Turned_s1 (check_Turn : Int → Int → Int → Option Int) (octet_Get : (List UInt8) → Int → Int → Option (Int × Bool)) (froma1 : List UInt8) (to : List UInt8) (xat : Int) (check1 : Int) (xat1 : Int) : Option (Sum (Int × Int × Int) Int) :=
  cond (decide (xat < (froma1.length : Int)))
    (
    oreq (decide (0 ≤ xat)) <|
    (froma1[xat.toNat]?).bind fun (b : UInt8) =>
    let t2 := wI .i64 ((wI .i64 (b.toNat : Int)) * 2 ^ 8)
    let t3 := decide ((wI .i64 (xat + 1)) < (froma1.length : Int))
    cond (t3)
      (
      oreq (decide (0 ≤ (wI .i64 (xat + 1)))) <|
      (froma1[(wI .i64 (xat + 1)).toNat]?).bind fun (b1 : UInt8) =>
      (octet_Get to xat1 2).bind fun xg =>
      (check_Turn check1 (iorI .i64 t2 (wI .i64 (b1.toNat : Int))) (wI .i64 xg.1)).bind fun t4 =>
      some (.inl (wI .i64 (xat + 2), t4, wI .i64 (xat1 + 2))))
      (
      (octet_Get to xat1 2).bind fun xg1 =>
      (check_Turn check1 t2 (wI .i64 xg1.1)).bind fun t5 =>
      some (.inl (wI .i64 (xat + 2), t5, wI .i64 (xat1 + 2)))))
    (
    some (.inr (check1)))
def check_TurnedF (check_Turn : Int → Int → Int → Option Int) (octet_Get : (List UInt8) → Int → Int → Option (Int × Bool)) (check : Int) (froma1 : List UInt8) (to : List UInt8) : Option Int :=
  let t := (froma1.length : Int) != (to.length : Int)
  cond (t)
    (
    some (check))
    (
    let t1 := decide (((froma1.length : Int).tmod 2) > 0)
    cond (t1)
      (
      some (check))
      (
      iter (fun st => check_Turned_s1 check_Turn octet_Get froma1 to st.1 st.2.1 st.2.2) FUEL (0, check, 0)))
def post45 (x : Int) (v : Value) (H : Hp) : Prop := v = .int .i64 x
def r45 (g : Int → (List UInt8) → (List UInt8) → Option Int) : List SArg → Option SRes
  | [.v (.int .i64 a0_1), .v (.string ⟨⟨a1_1⟩⟩), .v (.string ⟨⟨a2_1⟩⟩)] => match g a0_1 a1_1 a2_1 with | some x => some ⟨.int .i64 x, [], []⟩ | none => none
  | _ => none
def s45 (g : Int → (List UInt8) → (List UInt8) → Option Int) : Summ := ⟨[.v, .v, .v], r45 g⟩
theorem r45_eq {g : Int → (List UInt8) → (List UInt8) → Option Int} {a0_1 : Int} {a1_1 : List UInt8} {a2_1 : List UInt8} {x : Int} (hx : g a0_1 a1_1 a2_1 = some x) : (s45 g).run [.v (.int .i64 a0_1), .v (.string ⟨⟨a1_1⟩⟩), .v (.string ⟨⟨a2_1⟩⟩)] = some ⟨.int .i64 x, [], []⟩ := by
  show r45 g [.v (.int .i64 a0_1), .v (.string ⟨⟨a1_1⟩⟩), .v (.string ⟨⟨a2_1⟩⟩)] = _
  simp only [r45, hx]
abbrev sums45 (check_Turn : Int → Int → Int → Option Int) (octet_Get : (List UInt8) → Int → Int → Option (Int × Bool)) : List (Nat × Summ) := [(43, s43 check_Turn), (73, s73 octet_Get)]
def head45_1 (froma1 : List UInt8) (to : List UInt8) (xat : Int) (check1 : Int) (xat1 : Int) : VM :=
  ⟨⟨92, 32, [(0, .func (.yield 5) #[] #[]), (1, .pointer (some ⟨3, 0, none⟩)), (3, .int .i64 xat)], [.code k92_17, .inLoop k92_17, .inBlock 0], [], false, none⟩, [⟨45, 40, [(3, .pointer (some ⟨0, 0, none⟩))], [.inRangeFunc 5, .inBlock 0, .code k45_19], [4], false, none⟩], [(0, .cells [.int .i64 check1]), (1, .cells [.string ⟨⟨to⟩⟩]), (2, .cells [.int .i64 xat1]), (3, .cells [.string ⟨⟨froma1⟩⟩]), (4, .marks), (5, .loop ⟨.ready, none, 45, 40, [(3, .pointer (some ⟨0, 0, none⟩)), (5, .pointer (some ⟨1, 0, none⟩)), (7, .pointer (some ⟨2, 0, none⟩))], [25], k45_8, k45_14, 4⟩)], 6⟩
theorem loop45_1 (check_Turn : Int → Int → Int → Option Int) (octet_Get : (List UInt8) → Int → Int → Option (Int × Bool)) (hS : SumsOK Try.prog (aget (sums45 check_Turn octet_Get))) (froma1 : List UInt8) (to : List UInt8) (res : Int) : ∀ fuel (st : Int × Int × Int) (o : Int), iter (fun st => check_Turned_s1 check_Turn octet_Get froma1 to st.1 st.2.1 st.2.2) fuel st = some o → (o = res) →
    Leads Try.prog 45 0 (head45_1 froma1 to st.1 st.2.1 st.2.2) (fun v H _ => post45 res v H) := by
  intro fuel st o h hc
  refine iter_leads (head := fun st => head45_1 froma1 to st.1 st.2.1 st.2.2) (C := fun o => (o = res)) ?_ fuel st o h hc
  clear h hc o st fuel
  intro st o h hc
  obtain ⟨xat, check1, xat1⟩ := st
  replace h : check_Turned_s1 check_Turn octet_Get froma1 to xat check1 xat1 = some o := h
  show Leads Try.prog 45 0 (head45_1 froma1 to xat check1 xat1) (fun v H _ => post45 res v H)
  unfold check_Turned_s1 at h
  refine ev_ok tab_ok hS true 3000 ?_
  conv => whnf
  refine br.h2 h ?_ ?_ ?_
  · rfl
  · clear h; intro hb h; conv => whnf
    all_goals (cases h; cases hc)
    all_goals exact rfl
  clear h; intro hb h; conv => whnf
  replace h := oreq.elim h; have hb := h.1; replace h := h.2
  first | (refine req.intro hb ?_; conv => whnf) | skip
  obtain ⟨b, hy, h2⟩ := obind.elim h; clear h; have h := h2; clear h2
  refine rdS.intro hy ?_
  conv => whnf
  let t2 : Int := wI .i64 ((wI .i64 (b.toNat : Int)) * 2 ^ 8)
  let t3 : Bool := decide ((wI .i64 (xat + 1)) < (froma1.length : Int))
  refine br.h2 h ?_ ?_ ?_
  · rfl
  · clear h; intro hb h; conv => whnf
    obtain ⟨xg1, hy, h2⟩ := obind.elim h; clear h; have h := h2; clear h2
    refine sumK.introF [] (sumRun_of (aqs := [.v (.string ⟨⟨to⟩⟩), .v (.int .i64 xat1), .v (.int .i64 2)]) (ra_cons rfl (ra_cons rfl (ra_cons rfl ra_nil))) (r73_eq hy) rfl rfl rfl rfl) ?_
    conv => whnf
    obtain ⟨t5, hy, h2⟩ := obind.elim h; clear h; have h := h2; clear h2
    refine sumK.introF [] (sumRun_of (aqs := [.v (.int .i64 check1), .v (.int .i64 t2), .v (.int .i64 (wI .i64 xg1.1))]) (ra_cons rfl (ra_cons rfl (ra_cons rfl ra_nil))) (r43_eq hy) rfl rfl rfl rfl) ?_
    conv => whnf
    cases h; simp only [Sum.elim_inl, Sum.elim_inr, head45_1] at hc
    refine Leads.re hc [(0, 0), (1, 1), (2, 2), (3, 3), (4, 4), (5, 5)] rfl ?_ ?_ (hu := by repeat' first | exact trivial | refine ⟨⟨rfl, rfl, rfl, rfl, rfl, ?_, rfl, rfl⟩, ?_⟩ | refine ⟨⟨_, rfl, rfl⟩, ?_⟩) <;> (repeat' first | exact trivial | refine ⟨⟨_, rfl, rfl⟩, ?_⟩ | refine ⟨⟨_, _, rfl, rfl, .rowF (vI_flat _ _) id⟩, ?_⟩ | refine ⟨⟨_, _, rfl, rfl, .rowF (vS_flat _) id⟩, ?_⟩ | refine ⟨⟨_, _, rfl, rfl, .rowF (vB_flat _) id⟩, ?_⟩ | refine ⟨⟨_, _, rfl, rfl, .cells rfl⟩, ?_⟩ | refine ⟨⟨_, _, rfl, rfl, .row rfl id⟩, ?_⟩ | refine ⟨⟨_, _, rfl, rfl, .cr rfl⟩, ?_⟩ | refine ⟨⟨_, _, rfl, rfl, .rc rfl⟩, ?_⟩ | refine ⟨⟨_, _, rfl, rfl, .marks⟩, ?_⟩ | refine ⟨⟨_, _, rfl, rfl, .siter _ _⟩, ?_⟩ | refine ⟨⟨_, _, rfl, rfl, .loop rfl rfl rfl rfl (by repeat' first | exact trivial | refine ⟨rfl, ?_⟩) rfl rfl rfl rfl⟩, ?_⟩)
  clear h; intro hb h; conv => whnf
  replace h := oreq.elim h; have hb := h.1; replace h := h.2
  first | (refine req.intro hb ?_; conv => whnf) | skip
  obtain ⟨b1, hy, h2⟩ := obind.elim h; clear h; have h := h2; clear h2
  refine rdS.intro hy ?_
  conv => whnf
  obtain ⟨xg, hy, h2⟩ := obind.elim h; clear h; have h := h2; clear h2
  refine sumK.introF [] (sumRun_of (aqs := [.v (.string ⟨⟨to⟩⟩), .v (.int .i64 xat1), .v (.int .i64 2)]) (ra_cons rfl (ra_cons rfl (ra_cons rfl ra_nil))) (r73_eq hy) rfl rfl rfl rfl) ?_
  conv => whnf
  obtain ⟨t4, hy, h2⟩ := obind.elim h; clear h; have h := h2; clear h2
  refine sumK.introF [] (sumRun_of (aqs := [.v (.int .i64 check1), .v (.int .i64 (iorI .i64 t2 (wI .i64 (b1.toNat : Int)))), .v (.int .i64 (wI .i64 xg.1))]) (ra_cons rfl (ra_cons rfl (ra_cons rfl ra_nil))) (r43_eq hy) rfl rfl rfl rfl) ?_
  conv => whnf
  cases h; simp only [Sum.elim_inl, Sum.elim_inr, head45_1] at hc
  refine Leads.re hc [(0, 0), (1, 1), (2, 2), (3, 3), (4, 4), (5, 5)] rfl ?_ ?_ (hu := by repeat' first | exact trivial | refine ⟨⟨rfl, rfl, rfl, rfl, rfl, ?_, rfl, rfl⟩, ?_⟩ | refine ⟨⟨_, rfl, rfl⟩, ?_⟩) <;> (repeat' first | exact trivial | refine ⟨⟨_, rfl, rfl⟩, ?_⟩ | refine ⟨⟨_, _, rfl, rfl, .rowF (vI_flat _ _) id⟩, ?_⟩ | refine ⟨⟨_, _, rfl, rfl, .rowF (vS_flat _) id⟩, ?_⟩ | refine ⟨⟨_, _, rfl, rfl, .rowF (vB_flat _) id⟩, ?_⟩ | refine ⟨⟨_, _, rfl, rfl, .cells rfl⟩, ?_⟩ | refine ⟨⟨_, _, rfl, rfl, .row rfl id⟩, ?_⟩ | refine ⟨⟨_, _, rfl, rfl, .cr rfl⟩, ?_⟩ | refine ⟨⟨_, _, rfl, rfl, .rc rfl⟩, ?_⟩ | refine ⟨⟨_, _, rfl, rfl, .marks⟩, ?_⟩ | refine ⟨⟨_, _, rfl, rfl, .siter _ _⟩, ?_⟩ | refine ⟨⟨_, _, rfl, rfl, .loop rfl rfl rfl rfl (by repeat' first | exact trivial | refine ⟨rfl, ?_⟩) rfl rfl rfl rfl⟩, ?_⟩)
theorem leads45 (check_Turn : Int → Int → Int → Option Int) (octet_Get : (List UInt8) → Int → Int → Option (Int × Bool)) (hS : SumsOK Try.prog (aget (sums45 check_Turn octet_Get))) (check : Int) (froma1 : List UInt8) (to : List UInt8) (res : Int) (h : check_TurnedF check_Turn octet_Get check froma1 to = some res) :
    Leads Try.prog 45 0 ⟨⟨45, 40, [(0, .int .i64 check), (1, .string ⟨⟨froma1⟩⟩), (2, .string ⟨⟨to⟩⟩)], [.code k45_23], [], false, none⟩, [], [], 0⟩ (fun v H _ => post45 res v H) := by
  unfold check_TurnedF at h
  refine ev_ok tab_ok hS true 3000 ?_
  conv => whnf
  let t : Bool := (froma1.length : Int) != (to.length : Int)
  refine br.h h ?_ ?_ ?_
  · rfl
  · clear h; intro hb h; conv => whnf
    all_goals (cases h)
    all_goals exact rfl
  clear h; intro hb h; conv => whnf
  let t1 : Bool := decide (((froma1.length : Int).tmod 2) > 0)
  refine br.h h ?_ ?_ ?_
  · rfl
  · clear h; intro hb h; conv => whnf
    all_goals (cases h)
    all_goals exact rfl
  clear h; intro hb h; conv => whnf
  have hl := loop45_1 check_Turn octet_Get hS _ _ res _ _ _ h rfl; simp only [head45_1] at hl
  refine Leads.re hl [(0, 0), (1, 1), (2, 2), (3, 3), (4, 4), (5, 5)] rfl ?_ ?_ (hu := by repeat' first | exact trivial | refine ⟨⟨rfl, rfl, rfl, rfl, rfl, ?_, rfl, rfl⟩, ?_⟩ | refine ⟨⟨_, rfl, rfl⟩, ?_⟩) <;> (repeat' first | exact trivial | refine ⟨⟨_, rfl, rfl⟩, ?_⟩ | refine ⟨⟨_, _, rfl, rfl, .rowF (vI_flat _ _) id⟩, ?_⟩ | refine ⟨⟨_, _, rfl, rfl, .rowF (vS_flat _) id⟩, ?_⟩ | refine ⟨⟨_, _, rfl, rfl, .rowF (vB_flat _) id⟩, ?_⟩ | refine ⟨⟨_, _, rfl, rfl, .cells rfl⟩, ?_⟩ | refine ⟨⟨_, _, rfl, rfl, .row rfl id⟩, ?_⟩ | refine ⟨⟨_, _, rfl, rfl, .cr rfl⟩, ?_⟩ | refine ⟨⟨_, _, rfl, rfl, .rc rfl⟩, ?_⟩ | refine ⟨⟨_, _, rfl, rfl, .marks⟩, ?_⟩ | refine ⟨⟨_, _, rfl, rfl, .siter _ _⟩, ?_⟩ | refine ⟨⟨_, _, rfl, rfl, .loop rfl rfl rfl rfl (by repeat' first | exact trivial | refine ⟨rfl, ?_⟩) rfl rfl rfl rfl⟩, ?_⟩)
theorem ok45 (check_Turn : Int → Int → Int → Option Int) (octet_Get : (List UInt8) → Int → Int → Option (Int × Bool)) (hS : SumsOK Try.prog (aget (sums45 check_Turn octet_Get))) : SumOK Try.prog 45 (s45 (check_TurnedF check_Turn octet_Get)) := by
  refine SumOK.of_leads tab_ok (fun ar r ha hr => ?_) ⟨Try.f45, rfl, by decide, rfl⟩
  simp only [s45] at ha hr
  unfold r45 at hr
  split at hr <;> try (cases hr; done)
  split at hr <;> cases hr
  rename_i x h
  refine ⟨_, rfl, (leads45 check_Turn octet_Get hS _ _ _ x h).mono fun v H t hp => ?_⟩
  cases hp
  exact Res.val rfl trivial
def check_Turned : Int → (List UInt8) → (List UInt8) → Option Int := check_TurnedF check_Turn octet_Get
theorem lift45 : SumOK Try.prog 45 (s45 check_Turned) := ok45 check_Turn octet_Get (SumsOK.of_tab ⟨lift43, lift73, trivial⟩)
end Go.Vm.Code

namespace Go.Vm.Code
open Go Go.Vm Go.Proofs
set_option maxRecDepth 100000
set_option maxHeartbeats 4000000
set_option linter.unusedVariables false

/-! cloakroom/cloakroomref03.Add -/
def R03_Add_s1 (l : List Int) (n1 : Int) : Option (Sum Int Int) :=
  cond (decide (n1 > 65535))
    (
    let t := wI .i64 ((n1.tmod 65536) + (wI .i64 (n1.tdiv 65536)))
    some (.inl t))
    (
    some (.inr (n1)))
def R03_Add_s2 (l : List Int) (n : Int) (i : Int) : Option (Sum (Int × Int) Int) :=
  cond (decide (i < (l.length : Int)))
    (
    oreq (decide ((0 : Int) ≤ i ∧ i < (l.length : Int))) <|
    (l[i.toNat]?).bind fun (e : Int) =>
    some (.inl (wI .i64 (n + e), wI .i64 (i + 1))))
    (
    (iter (fun st => R03_Add_s1 l st) FUEL n).bind fun o => some (.inr (o)))
def R03_AddF (l : List Int) : Option Int :=
  iter (fun st => R03_Add_s2 l st.1 st.2) FUEL (0, 0)
def post69 (x : Int) (v : Value) (H : Hp) : Prop := v = .int .i64 x
def r69 (g : (List Int) → Option Int) : List SArg → Option SRes
  | [.sl n0 cs0] => match unL (asI .i64) cs0 with | some y0 => (match g y0 with | some x => some ⟨.int .i64 x, [], []⟩ | none => none) | none => none
  | _ => none
def s69 (g : (List Int) → Option Int) : Summ := ⟨[.sl 1], r69 g⟩
theorem r69_eq {g : (List Int) → Option Int} {y0 : List Int} {x : Int} (hx : g y0 = some x) : (s69 g).run [.sl y0.length (vI .i64 y0)] = some ⟨.int .i64 x, [], []⟩ := by
  show r69 g [.sl y0.length (vI .i64 y0)] = _
  simp only [r69, unI_vI, hx]
abbrev sums69 : List (Nat × Summ) := []
def head69_1 (l : List Int) (n1 : Int) : VM :=
  ⟨⟨69, 25, [(3, .int .i64 n1)], [.code k69_19, .inLoop k69_19, .inBlock 2, .code k69_23], [], false, none⟩, [], [(0, .row false (vI .i64 l))], 1⟩
def head69_2 (l : List Int) (n : Int) (i : Int) : VM :=
  ⟨⟨69, 25, [(0, .slice (some ⟨0, 0, none⟩) l.length 1), (3, .int .i64 n), (4, .int .i64 i)], [.code k69_10, .inLoop k69_10, .inBlock 0, .code k69_24], [], false, none⟩, [], [(0, .row false (vI .i64 l))], 1⟩
theorem loop69_1 (hS : SumsOK Try.prog (aget (sums69))) (l : List Int) (res : Int) : ∀ fuel (st : Int) (o : Int), iter (fun st => R03_Add_s1 l st) fuel st = some o → (o = res) →
    Leads Try.prog 69 1 (head69_1 l st) (fun v H _ => post69 res v H) := by
  intro fuel st o h hc
  refine iter_leads (head := fun st => head69_1 l st) (C := fun o => (o = res)) ?_ fuel st o h hc
  clear h hc o st fuel
  intro n1 o h hc
  replace h : R03_Add_s1 l n1 = some o := h
  show Leads Try.prog 69 1 (head69_1 l n1) (fun v H _ => post69 res v H)
  unfold R03_Add_s1 at h
  refine ev_ok tab_ok hS true 3000 ?_
  conv => whnf
  refine br.h2 h ?_ ?_ ?_
  · rfl
  · clear h; intro hb h; conv => whnf
    all_goals (cases h; cases hc)
    all_goals exact rfl
  clear h; intro hb h; conv => whnf
  let t : Int := wI .i64 ((n1.tmod 65536) + (wI .i64 (n1.tdiv 65536)))
  cases h; simp only [Sum.elim_inl, Sum.elim_inr, head69_1] at hc
  refine Leads.re hc [(0, 0)] rfl ?_ ?_ <;> (repeat' first | exact trivial | refine ⟨⟨_, rfl, rfl⟩, ?_⟩ | refine ⟨⟨_, _, rfl, rfl, .rowF (vI_flat _ _) id⟩, ?_⟩ | refine ⟨⟨_, _, rfl, rfl, .rowF (vS_flat _) id⟩, ?_⟩ | refine ⟨⟨_, _, rfl, rfl, .rowF (vB_flat _) id⟩, ?_⟩ | refine ⟨⟨_, _, rfl, rfl, .cells rfl⟩, ?_⟩ | refine ⟨⟨_, _, rfl, rfl, .row rfl id⟩, ?_⟩ | refine ⟨⟨_, _, rfl, rfl, .cr rfl⟩, ?_⟩ | refine ⟨⟨_, _, rfl, rfl, .rc rfl⟩, ?_⟩ | refine ⟨⟨_, _, rfl, rfl, .marks⟩, ?_⟩ | refine ⟨⟨_, _, rfl, rfl, .siter _ _⟩, ?_⟩ | refine ⟨⟨_, _, rfl, rfl, .loop rfl rfl rfl rfl (by repeat' first | exact trivial | refine ⟨rfl, ?_⟩) rfl rfl rfl rfl⟩, ?_⟩)
theorem loop69_2 (hS : SumsOK Try.prog (aget (sums69))) (l : List Int) (res : Int) : ∀ fuel (st : Int × Int) (o : Int), iter (fun st => R03_Add_s2 l st.1 st.2) fuel st = some o → (o = res) →
    Leads Try.prog 69 1 (head69_2 l st.1 st.2) (fun v H _ => post69 res v H) := by
  intro fuel st o h hc
  refine iter_leads (head := fun st => head69_2 l st.1 st.2) (C := fun o => (o = res)) ?_ fuel st o h hc
  clear h hc o st fuel
  intro st o h hc
  obtain ⟨n, i⟩ := st
  replace h : R03_Add_s2 l n i = some o := h
  show Leads Try.prog 69 1 (head69_2 l n i) (fun v H _ => post69 res v H)
  unfold R03_Add_s2 at h
  refine ev_ok tab_ok hS true 3000 ?_
  conv => whnf
  refine br.h2 h ?_ ?_ ?_
  · rfl
  · clear h; intro hb h; conv => whnf
    obtain ⟨y, hy, h2⟩ := obind.elim h; cases h2
    have hl := loop69_1 hS _ res _ _ _ hy hc; simp only [head69_1] at hl
    refine Leads.re hl [(0, 0)] rfl ?_ ?_ <;> (repeat' first | exact trivial | refine ⟨⟨_, rfl, rfl⟩, ?_⟩ | refine ⟨⟨_, _, rfl, rfl, .rowF (vI_flat _ _) id⟩, ?_⟩ | refine ⟨⟨_, _, rfl, rfl, .rowF (vS_flat _) id⟩, ?_⟩ | refine ⟨⟨_, _, rfl, rfl, .rowF (vB_flat _) id⟩, ?_⟩ | refine ⟨⟨_, _, rfl, rfl, .cells rfl⟩, ?_⟩ | refine ⟨⟨_, _, rfl, rfl, .row rfl id⟩, ?_⟩ | refine ⟨⟨_, _, rfl, rfl, .cr rfl⟩, ?_⟩ | refine ⟨⟨_, _, rfl, rfl, .rc rfl⟩, ?_⟩ | refine ⟨⟨_, _, rfl, rfl, .marks⟩, ?_⟩ | refine ⟨⟨_, _, rfl, rfl, .siter _ _⟩, ?_⟩ | refine ⟨⟨_, _, rfl, rfl, .loop rfl rfl rfl rfl (by repeat' first | exact trivial | refine ⟨rfl, ?_⟩) rfl rfl rfl rfl⟩, ?_⟩)
  clear h; intro hb h; conv => whnf
  replace h := oreq.elim h; have hb := h.1; replace h := h.2
  first | (refine req.intro hb ?_; conv => whnf) | skip
  obtain ⟨e, hy, h2⟩ := obind.elim h; clear h; have h := h2; clear h2
  refine rd.I hy (by first | rfl | (rw [Nat.zero_add, Nat.mul_one]; done) | omega) ?_
  conv => whnf
  cases h; simp only [Sum.elim_inl, Sum.elim_inr, head69_2] at hc
  refine Leads.re hc [(0, 0)] rfl ?_ ?_ <;> (repeat' first | exact trivial | refine ⟨⟨_, rfl, rfl⟩, ?_⟩ | refine ⟨⟨_, _, rfl, rfl, .rowF (vI_flat _ _) id⟩, ?_⟩ | refine ⟨⟨_, _, rfl, rfl, .rowF (vS_flat _) id⟩, ?_⟩ | refine ⟨⟨_, _, rfl, rfl, .rowF (vB_flat _) id⟩, ?_⟩ | refine ⟨⟨_, _, rfl, rfl, .cells rfl⟩, ?_⟩ | refine ⟨⟨_, _, rfl, rfl, .row rfl id⟩, ?_⟩ | refine ⟨⟨_, _, rfl, rfl, .cr rfl⟩, ?_⟩ | refine ⟨⟨_, _, rfl, rfl, .rc rfl⟩, ?_⟩ | refine ⟨⟨_, _, rfl, rfl, .marks⟩, ?_⟩ | refine ⟨⟨_, _, rfl, rfl, .siter _ _⟩, ?_⟩ | refine ⟨⟨_, _, rfl, rfl, .loop rfl rfl rfl rfl (by repeat' first | exact trivial | refine ⟨rfl, ?_⟩) rfl rfl rfl rfl⟩, ?_⟩)
theorem leads69 (hS : SumsOK Try.prog (aget (sums69))) (l : List Int) (res : Int) (h : R03_AddF l = some res) :
    Leads Try.prog 69 1 ⟨⟨69, 25, [(0, .slice (some ⟨0, 0, none⟩) l.length 1)], [.code k69_27], [], false, none⟩, [], [(0, .row false (vI .i64 l))], 1⟩ (fun v H _ => post69 res v H) := by
  unfold R03_AddF at h
  refine ev_ok tab_ok hS true 3000 ?_
  conv => whnf
  have hl := loop69_2 hS _ res _ _ _ h rfl; simp only [head69_2] at hl
  refine Leads.re hl [(0, 0)] rfl ?_ ?_ <;> (repeat' first | exact trivial | refine ⟨⟨_, rfl, rfl⟩, ?_⟩ | refine ⟨⟨_, _, rfl, rfl, .rowF (vI_flat _ _) id⟩, ?_⟩ | refine ⟨⟨_, _, rfl, rfl, .rowF (vS_flat _) id⟩, ?_⟩ | refine ⟨⟨_, _, rfl, rfl, .rowF (vB_flat _) id⟩, ?_⟩ | refine ⟨⟨_, _, rfl, rfl, .cells rfl⟩, ?_⟩ | refine ⟨⟨_, _, rfl, rfl, .row rfl id⟩, ?_⟩ | refine ⟨⟨_, _, rfl, rfl, .cr rfl⟩, ?_⟩ | refine ⟨⟨_, _, rfl, rfl, .rc rfl⟩, ?_⟩ | refine ⟨⟨_, _, rfl, rfl, .marks⟩, ?_⟩ | refine ⟨⟨_, _, rfl, rfl, .siter _ _⟩, ?_⟩ | refine ⟨⟨_, _, rfl, rfl, .loop rfl rfl rfl rfl (by repeat' first | exact trivial | refine ⟨rfl, ?_⟩) rfl rfl rfl rfl⟩, ?_⟩)
theorem ok69 (hS : SumsOK Try.prog (aget (sums69))) : SumOK Try.prog 69 (s69 (R03_AddF)) := by
  refine SumOK.of_leads tab_ok (fun ar r ha hr => ?_) ⟨Try.f69, rfl, by decide, rfl⟩
  simp only [s69] at ha hr
  unfold r69 at hr
  split at hr <;> try (cases hr; done)
  split at hr <;> try (cases hr; done)
  rename_i y0 ey0
  have ey0 := unI_eq ey0
  split at hr <;> cases hr
  rename_i x h
  subst ey0
  simp only [argsOK, vI_len, vB_len, vS_len, Nat.mul_one] at ha
  obtain ⟨hn0, -, -⟩ := ha
  subst hn0
  refine ⟨_, rfl, (leads69 hS _ x h).mono fun v H t hp => ?_⟩
  cases hp
  exact Res.val rfl trivial
def R03_Add : (List Int) → Option Int := R03_AddF
theorem lift69 : SumOK Try.prog 69 (s69 R03_Add) := ok69 (SumsOK.of_tab trivial)
end Go.Vm.Code

namespace Go.Vm.Code
open Go Go.Vm Go.Proofs
set_option maxRecDepth 100000
set_option maxHeartbeats 4000000
set_option linter.unusedVariables false

/-! cloakroom/cloakroomref03.word -/
def R03_wordF (n : Int) : Option Bool :=
  cond (decide (n ≥ 0))
    (
    some (decide (n ≤ 65535)))
    (
    some (false))
def post72 (x : Bool) (v : Value) (H : Hp) : Prop := v = .bool x
def r72 (g : Int → Option Bool) : List SArg → Option SRes
  | [.v (.int .i64 a0_1)] => match g a0_1 with | some x => some ⟨.bool x, [], []⟩ | none => none
  | _ => none
def s72 (g : Int → Option Bool) : Summ := ⟨[.v], r72 g⟩
theorem r72_eq {g : Int → Option Bool} {a0_1 : Int} {x : Bool} (hx : g a0_1 = some x) : (s72 g).run [.v (.int .i64 a0_1)] = some ⟨.bool x, [], []⟩ := by
  show r72 g [.v (.int .i64 a0_1)] = _
  simp only [r72, hx]
abbrev sums72 : List (Nat × Summ) := []
theorem leads72 (hS : SumsOK Try.prog (aget (sums72))) (n : Int) (res : Bool) (h : R03_wordF n = some res) :
    Leads Try.prog 72 0 ⟨⟨72, 9, [(0, .int .i64 n)], [.code k72_3], [], false, none⟩, [], [], 0⟩ (fun v H _ => post72 res v H) := by
  unfold R03_wordF at h
  refine ev_ok tab_ok hS true 3000 ?_
  conv => whnf
  refine br.h h ?_ ?_ ?_
  · rfl
  · clear h; intro hb h; conv => whnf
    all_goals (cases h)
    all_goals exact rfl
  clear h; intro hb h; conv => whnf
  all_goals (cases h)
  all_goals exact rfl
theorem ok72 (hS : SumsOK Try.prog (aget (sums72))) : SumOK Try.prog 72 (s72 (R03_wordF)) := by
  refine SumOK.of_leads tab_ok (fun ar r ha hr => ?_) ⟨Try.f72, rfl, by decide, rfl⟩
  simp only [s72] at ha hr
  unfold r72 at hr
  split at hr <;> try (cases hr; done)
  split at hr <;> cases hr
  rename_i x h
  refine ⟨_, rfl, (leads72 hS _ x h).mono fun v H t hp => ?_⟩
  cases hp
  exact Res.val rfl trivial
def R03_word : Int → Option Bool := R03_wordF
theorem lift72 : SumOK Try.prog 72 (s72 R03_word) := ok72 (SumsOK.of_tab trivial)
end Go.Vm.Code

namespace Go.Vm.Code
open Go Go.Vm Go.Proofs
set_option maxRecDepth 100000
set_option maxHeartbeats 4000000
set_option linter.unusedVariables false

/-! cloakroom/cloakroomref03.Turn -/
def R03_TurnF (R03_Add : (List Int) → Option Int) (R03_word : Int → Option Bool) (check : Int) (froma1 : Int) (to : Int) : Option Int :=
  (R03_word check).bind fun w =>
  cond (!w)
    (
    some (0))
    (
    (R03_word froma1).bind fun w1 =>
    cond (!w1)
      (
      some (0))
      (
      (R03_word to).bind fun w2 =>
      cond (!w2)
        (
        some (0))
        (
        (R03_Add [wI .i64 (65535 - check), wI .i64 (65535 - froma1), to]).bind fun a =>
        some (wI .i64 (65535 - a)))))
def post44 (x : Int) (v : Value) (H : Hp) : Prop := v = .int .i64 x
def r44 (g : Int → Int → Int → Option Int) : List SArg → Option SRes
  | [.v (.int .i64 a0_1), .v (.int .i64 a1_1), .v (.int .i64 a2_1)] => match g a0_1 a1_1 a2_1 with | some x => some ⟨.int .i64 x, [], []⟩ | none => none
  | _ => none
def s44 (g : Int → Int → Int → Option Int) : Summ := ⟨[.v, .v, .v], r44 g⟩
theorem r44_eq {g : Int → Int → Int → Option Int} {a0_1 : Int} {a1_1 : Int} {a2_1 : Int} {x : Int} (hx : g a0_1 a1_1 a2_1 = some x) : (s44 g).run [.v (.int .i64 a0_1), .v (.int .i64 a1_1), .v (.int .i64 a2_1)] = some ⟨.int .i64 x, [], []⟩ := by
  show r44 g [.v (.int .i64 a0_1), .v (.int .i64 a1_1), .v (.int .i64 a2_1)] = _
  simp only [r44, hx]
abbrev sums44 (R03_Add : (List Int) → Option Int) (R03_word : Int → Option Bool) : List (Nat × Summ) := [(69, s69 R03_Add), (72, s72 R03_word)]
theorem leads44 (R03_Add : (List Int) → Option Int) (R03_word : Int → Option Bool) (hS : SumsOK Try.prog (aget (sums44 R03_Add R03_word))) (check : Int) (froma1 : Int) (to : Int) (res : Int) (h : R03_TurnF R03_Add R03_word check froma1 to = some res) :
    Leads Try.prog 44 0 ⟨⟨44, 28, [(0, .int .i64 check), (1, .int .i64 froma1), (2, .int .i64 to)], [.code k44_9], [], false, none⟩, [], [], 0⟩ (fun v H _ => post44 res v H) := by
  unfold R03_TurnF at h
  refine ev_ok tab_ok hS true 3000 ?_
  conv => whnf
  obtain ⟨w, hy, h2⟩ := obind.elim h; clear h; have h := h2; clear h2
  refine sumK.introF [] (sumRun_of (aqs := [.v (.int .i64 check)]) (ra_cons rfl ra_nil) (r72_eq hy) rfl rfl rfl rfl) ?_
  conv => whnf
  refine br.h h ?_ ?_ ?_
  · rfl
  · clear h; intro hb h; conv => whnf
    all_goals (cases h)
    all_goals exact rfl
  clear h; intro hb h; conv => whnf
  obtain ⟨w1, hy, h2⟩ := obind.elim h; clear h; have h := h2; clear h2
  refine sumK.introF [] (sumRun_of (aqs := [.v (.int .i64 froma1)]) (ra_cons rfl ra_nil) (r72_eq hy) rfl rfl rfl rfl) ?_
  conv => whnf
  refine br.h h ?_ ?_ ?_
  · rfl
  · clear h; intro hb h; conv => whnf
    all_goals (cases h)
    all_goals exact rfl
  clear h; intro hb h; conv => whnf
  obtain ⟨w2, hy, h2⟩ := obind.elim h; clear h; have h := h2; clear h2
  refine sumK.introF [] (sumRun_of (aqs := [.v (.int .i64 to)]) (ra_cons rfl ra_nil) (r72_eq hy) rfl rfl rfl rfl) ?_
  conv => whnf
  refine br.h h ?_ ?_ ?_
  · rfl
  · clear h; intro hb h; conv => whnf
    all_goals (cases h)
    all_goals exact rfl
  clear h; intro hb h; conv => whnf
  obtain ⟨a, hy, h2⟩ := obind.elim h; clear h; have h := h2; clear h2
  refine sumK.introF [] (sumRun_of (aqs := [.sl ([wI .i64 (65535 - check), wI .i64 (65535 - froma1), to] : List Int).length (vI .i64 [wI .i64 (65535 - check), wI .i64 (65535 - froma1), to])]) (ra_cons (by first | rfl | exact ra_allI rfl rfl (by first | rfl | omega) (by first | rfl | (simp; done)) | exact ra_slI rfl rfl (by first | rfl | omega) (by first | rfl | omega) (by first | omega | (simp at *; omega))) ra_nil) (r69_eq hy) rfl rfl rfl rfl) ?_
  conv => whnf
  all_goals (cases h)
  all_goals exact rfl
theorem ok44 (R03_Add : (List Int) → Option Int) (R03_word : Int → Option Bool) (hS : SumsOK Try.prog (aget (sums44 R03_Add R03_word))) : SumOK Try.prog 44 (s44 (R03_TurnF R03_Add R03_word)) := by
  refine SumOK.of_leads tab_ok (fun ar r ha hr => ?_) ⟨Try.f44, rfl, by decide, rfl⟩
  simp only [s44] at ha hr
  unfold r44 at hr
  split at hr <;> try (cases hr; done)
  split at hr <;> cases hr
  rename_i x h
  refine ⟨_, rfl, (leads44 R03_Add R03_word hS _ _ _ x h).mono fun v H t hp => ?_⟩
  cases hp
  exact Res.val rfl trivial
def R03_Turn : Int → Int → Int → Option Int := R03_TurnF R03_Add R03_word
theorem lift44 : SumOK Try.prog 44 (s44 R03_Turn) := ok44 R03_Add R03_word (SumsOK.of_tab ⟨lift69, lift72, trivial⟩)
end Go.Vm.Code

namespace Go.Vm.Code
open Go Go.Vm Go.Proofs
set_option maxRecDepth 100000
set_option maxHeartbeats 4000000
set_option linter.unusedVariables false

/-! cloakroom/cloakroomref03.Words -/
def R03_Words_s1 (R02_Must : (List UInt8) → Int → Int → Option Int) (s1 : List UInt8) (i : Int) (out1 : List Int) : Option (Sum ((List UInt8) × Int × (List Int)) (List Int)) :=
  cond (decide (i < (s1.length : Int)))
    (
    (R02_Must s1 i 2).bind fun m =>
    oreq (decide ((out1.length + 1) * 8 ≤ 2 ^ 47)) <|
    let row := out1 ++ [m]
    some (.inl (s1, wI .i64 (i + 2), row)))
    (
    some (.inr (out1)))
def R03_WordsF (R02_Must : (List UInt8) → Int → Int → Option Int) (s : List UInt8) : Option (List Int) :=
  cond (((s.length : Int).tmod 2) == 1)
    (
    oreq (decide (s.length + 1 < 2 ^ 63)) <|
    iter (fun st => R03_Words_s1 R02_Must st.1 st.2.1 st.2.2) FUEL (s ++ [0], 0, []))
    (
    iter (fun st => R03_Words_s1 R02_Must st.1 st.2.1 st.2.2) FUEL (s, 0, []))
def post70 (x : List Int) (v : Value) (H : Hp) : Prop := ∃ j, 0 ≤ j ∧ (aget H j = some (.row true (vI .i64 x)) ∨ aget H j = some (.cells (vI .i64 x))) ∧ v = .slice (some ⟨j, 0, none⟩) x.length 1
def r70 (g : (List UInt8) → Option (List Int)) : List SArg → Option SRes
  | [.v (.string ⟨⟨a0_1⟩⟩)] => match g a0_1 with | some x => some ⟨.slice (some ⟨0, 0, none⟩) x.length 1, [(vI .i64 x)], []⟩ | none => none
  | _ => none
def s70 (g : (List UInt8) → Option (List Int)) : Summ := ⟨[.v], r70 g⟩
theorem r70_eq {g : (List UInt8) → Option (List Int)} {a0_1 : List UInt8} {x : List Int} (hx : g a0_1 = some x) : (s70 g).run [.v (.string ⟨⟨a0_1⟩⟩)] = some ⟨.slice (some ⟨0, 0, none⟩) x.length 1, [(vI .i64 x)], []⟩ := by
  show r70 g [.v (.string ⟨⟨a0_1⟩⟩)] = _
  simp only [r70, hx]
abbrev sums70 (R02_Must : (List UInt8) → Int → Int → Option Int) : List (Nat × Summ) := [(87, s87 R02_Must)]
def head70_1 (s1 : List UInt8) (i : Int) (out1 : List Int) : VM :=
  ⟨⟨70, 24, [(0, .string ⟨⟨s1⟩⟩), (3, .slice (some ⟨0, 0, none⟩) out1.length 1), (4, .int .i64 i)], [.code k70_14, .inLoop k70_14, .inBlock 0, .code k70_19], [], false, none⟩, [], [(0, .row true (vI .i64 out1))], 1⟩
theorem loop70_1 (R02_Must : (List UInt8) → Int → Int → Option Int) (hS : SumsOK Try.prog (aget (sums70 R02_Must))) (res : List Int) : ∀ fuel (st : (List UInt8) × Int × (List Int)) (o : List Int), iter (fun st => R03_Words_s1 R02_Must st.1 st.2.1 st.2.2) fuel st = some o → (o = res) →
    Leads Try.prog 70 0 (head70_1 st.1 st.2.1 st.2.2) (fun v H _ => post70 res v H) := by
  intro fuel st o h hc
  refine iter_leads (head := fun st => head70_1 st.1 st.2.1 st.2.2) (C := fun o => (o = res)) ?_ fuel st o h hc
  clear h hc o st fuel
  intro st o h hc
  obtain ⟨s1, i, out1⟩ := st
  replace h : R03_Words_s1 R02_Must s1 i out1 = some o := h
  show Leads Try.prog 70 0 (head70_1 s1 i out1) (fun v H _ => post70 res v H)
  unfold R03_Words_s1 at h
  refine ev_ok tab_ok hS true 3000 ?_
  conv => whnf
  refine br.h2 h ?_ ?_ ?_
  · rfl
  · clear h; intro hb h; conv => whnf
    all_goals (cases h; cases hc)
    all_goals exact ⟨0, by omega, .inl rfl, rfl⟩
  clear h; intro hb h; conv => whnf
  obtain ⟨m, hy, h2⟩ := obind.elim h; clear h; have h := h2; clear h2
  refine sumK.introF [] (sumRun_of (aqs := [.v (.string ⟨⟨s1⟩⟩), .v (.int .i64 i), .v (.int .i64 2)]) (ra_cons rfl (ra_cons rfl (ra_cons rfl ra_nil))) (r87_eq hy) rfl rfl rfl rfl) ?_
  conv => whnf
  replace h := oreq.elim h; have hb := h.1; replace h := h.2
  refine req.intro (ap_req (of_decide_eq_true hb) (by first | rfl | (simp; done) | (simp; omega)) rfl (by first | rfl | (simp; done) | (simp; omega)) (by first | rfl | exact vI_one _ _ | exact vS_one _ | exact vB_one _ | simp [vI_one, vS_one, vB_one, vI_drop, vI_take, vS_drop, vS_take]) rfl) ?_
  conv => whnf
  let row : List Int := out1 ++ [m]
  refine pk_apI (xs := out1) (ys := [m]) rfl (by first | rfl | omega) (by first | (simp; done) | (simp; omega)) (by first | (simp; done) | (simp; omega)) ?_
  conv => whnf
  cases h; simp only [Sum.elim_inl, Sum.elim_inr, head70_1] at hc
  refine Leads.re hc [(0, 2)] rfl ?_ ?_ <;> (repeat' first | exact trivial | refine ⟨⟨_, rfl, rfl⟩, ?_⟩ | refine ⟨⟨_, _, rfl, rfl, .rowF (vI_flat _ _) id⟩, ?_⟩ | refine ⟨⟨_, _, rfl, rfl, .rowF (vS_flat _) id⟩, ?_⟩ | refine ⟨⟨_, _, rfl, rfl, .rowF (vB_flat _) id⟩, ?_⟩ | refine ⟨⟨_, _, rfl, rfl, .cells rfl⟩, ?_⟩ | refine ⟨⟨_, _, rfl, rfl, .row rfl id⟩, ?_⟩ | refine ⟨⟨_, _, rfl, rfl, .cr rfl⟩, ?_⟩ | refine ⟨⟨_, _, rfl, rfl, .rc rfl⟩, ?_⟩ | refine ⟨⟨_, _, rfl, rfl, .marks⟩, ?_⟩ | refine ⟨⟨_, _, rfl, rfl, .siter _ _⟩, ?_⟩ | refine ⟨⟨_, _, rfl, rfl, .loop rfl rfl rfl rfl (by repeat' first | exact trivial | refine ⟨rfl, ?_⟩) rfl rfl rfl rfl⟩, ?_⟩)
theorem leads70 (R02_Must : (List UInt8) → Int → Int → Option Int) (hS : SumsOK Try.prog (aget (sums70 R02_Must))) (s : List UInt8) (res : List Int) (h : R03_WordsF R02_Must s = some res) :
    Leads Try.prog 70 0 ⟨⟨70, 24, [(0, .string ⟨⟨s⟩⟩)], [.code k70_23], [], false, none⟩, [], [], 0⟩ (fun v H _ => post70 res v H) := by
  unfold R03_WordsF at h
  refine ev_ok tab_ok hS true 3000 ?_
  conv => whnf
  refine br.h2 h ?_ ?_ ?_
  · rfl
  · clear h; intro hb h; conv => whnf
    have hl := loop70_1 R02_Must hS res _ _ _ h rfl; simp only [head70_1] at hl
    refine Leads.nilT 3 1 ?_
    refine Leads.re hl [(0, 0)] rfl ?_ ?_ <;> (repeat' first | exact trivial | refine ⟨⟨_, rfl, rfl⟩, ?_⟩ | refine ⟨⟨_, _, rfl, rfl, .rowF (vI_flat _ _) id⟩, ?_⟩ | refine ⟨⟨_, _, rfl, rfl, .rowF (vS_flat _) id⟩, ?_⟩ | refine ⟨⟨_, _, rfl, rfl, .rowF (vB_flat _) id⟩, ?_⟩ | refine ⟨⟨_, _, rfl, rfl, .cells rfl⟩, ?_⟩ | refine ⟨⟨_, _, rfl, rfl, .row rfl id⟩, ?_⟩ | refine ⟨⟨_, _, rfl, rfl, .cr rfl⟩, ?_⟩ | refine ⟨⟨_, _, rfl, rfl, .rc rfl⟩, ?_⟩ | refine ⟨⟨_, _, rfl, rfl, .marks⟩, ?_⟩ | refine ⟨⟨_, _, rfl, rfl, .siter _ _⟩, ?_⟩ | refine ⟨⟨_, _, rfl, rfl, .loop rfl rfl rfl rfl (by repeat' first | exact trivial | refine ⟨rfl, ?_⟩) rfl rfl rfl rfl⟩, ?_⟩)
  clear h; intro hb h; conv => whnf
  replace h := oreq.elim h; have hb := h.1; replace h := h.2
  first | (refine req.intro hb ?_; conv => whnf) | skip
  have hl := loop70_1 R02_Must hS res _ _ _ h rfl; simp only [head70_1] at hl
  refine Leads.nilT 3 1 ?_
  refine Leads.re hl [(0, 0)] rfl ?_ ?_ <;> (repeat' first | exact trivial | refine ⟨⟨_, rfl, rfl⟩, ?_⟩ | refine ⟨⟨_, _, rfl, rfl, .rowF (vI_flat _ _) id⟩, ?_⟩ | refine ⟨⟨_, _, rfl, rfl, .rowF (vS_flat _) id⟩, ?_⟩ | refine ⟨⟨_, _, rfl, rfl, .rowF (vB_flat _) id⟩, ?_⟩ | refine ⟨⟨_, _, rfl, rfl, .cells rfl⟩, ?_⟩ | refine ⟨⟨_, _, rfl, rfl, .row rfl id⟩, ?_⟩ | refine ⟨⟨_, _, rfl, rfl, .cr rfl⟩, ?_⟩ | refine ⟨⟨_, _, rfl, rfl, .rc rfl⟩, ?_⟩ | refine ⟨⟨_, _, rfl, rfl, .marks⟩, ?_⟩ | refine ⟨⟨_, _, rfl, rfl, .siter _ _⟩, ?_⟩ | refine ⟨⟨_, _, rfl, rfl, .loop rfl rfl rfl rfl (by repeat' first | exact trivial | refine ⟨rfl, ?_⟩) rfl rfl rfl rfl⟩, ?_⟩)
theorem ok70 (R02_Must : (List UInt8) → Int → Int → Option Int) (hS : SumsOK Try.prog (aget (sums70 R02_Must))) : SumOK Try.prog 70 (s70 (R03_WordsF R02_Must)) := by
  refine SumOK.of_leads tab_ok (fun ar r ha hr => ?_) ⟨Try.f70, rfl, by decide, rfl⟩
  simp only [s70] at ha hr
  unfold r70 at hr
  split at hr <;> try (cases hr; done)
  split at hr <;> cases hr
  rename_i x h
  refine ⟨_, rfl, (leads70 R02_Must hS _ x h).mono fun v H t hp => ?_⟩
  obtain ⟨j, hj, hc, hp⟩ := hp
  cases hp
  exact Res.one j rfl hc trivial hj
def R03_Words : (List UInt8) → Option (List Int) := R03_WordsF R02_Must
theorem lift70 : SumOK Try.prog 70 (s70 R03_Words) := ok70 R02_Must (SumsOK.of_tab ⟨lift87, trivial⟩)
end Go.Vm.Code

namespace Go.Vm.Code
open Go Go.Vm Go.Proofs
set_option maxRecDepth 100000
set_option maxHeartbeats 4000000
set_option linter.unusedVariables false

/-! cloakroom/cloakroomref03.Turned -/
def R03_Turned_s1 (R03_Turn : Int → Int → Int → Option Int) (w : List Int) (w1 : List Int) (check1 : Int) (i : Int) : Option (Sum (Int × Int) Int) :=
  cond (decide (i < (w.length : Int)))
    (
    oreq (decide ((0 : Int) ≤ i ∧ i < (w.length : Int))) <|
    (w[i.toNat]?).bind fun (e : Int) =>
    oreq (decide ((0 : Int) ≤ i ∧ i < (w1.length : Int))) <|
    (w1[i.toNat]?).bind fun (e1 : Int) =>
    (R03_Turn check1 e e1).bind fun t1 =>
    some (.inl (t1, wI .i64 (i + 1))))
    (
    some (.inr (check1)))
def R03_TurnedF (R03_Turn : Int → Int → Int → Option Int) (R03_Words : (List UInt8) → Option (List Int)) (check : Int) (froma1 : List UInt8) (to : List UInt8) : Option Int :=
  let t := (froma1.length : Int) != (to.length : Int)
  cond (t)
    (
    some (check))
    (
    cond (((froma1.length : Int).tmod 2) == 1)
      (
      some (check))
      (
      (R03_Words froma1).bind fun w =>
      (R03_Words to).bind fun w1 =>
      iter (fun st => R03_Turned_s1 R03_Turn w w1 st.1 st.2) FUEL (check, 0)))
def post46 (x : Int) (v : Value) (H : Hp) : Prop := v = .int .i64 x
def r46 (g : Int → (List UInt8) → (List UInt8) → Option Int) : List SArg → Option SRes
  | [.v (.int .i64 a0_1), .v (.string ⟨⟨a1_1⟩⟩), .v (.string ⟨⟨a2_1⟩⟩)] => match g a0_1 a1_1 a2_1 with | some x => some ⟨.int .i64 x, [], []⟩ | none => none
  | _ => none
def s46 (g : Int → (List UInt8) → (List UInt8) → Option Int) : Summ := ⟨[.v, .v, .v], r46 g⟩
theorem r46_eq {g : Int → (List UInt8) → (List UInt8) → Option Int} {a0_1 : Int} {a1_1 : List UInt8} {a2_1 : List UInt8} {x : Int} (hx : g a0_1 a1_1 a2_1 = some x) : (s46 g).run [.v (.int .i64 a0_1), .v (.string ⟨⟨a1_1⟩⟩), .v (.string ⟨⟨a2_1⟩⟩)] = some ⟨.int .i64 x, [], []⟩ := by
  show r46 g [.v (.int .i64 a0_1), .v (.string ⟨⟨a1_1⟩⟩), .v (.string ⟨⟨a2_1⟩⟩)] = _
  simp only [r46, hx]
abbrev sums46 (R03_Turn : Int → Int → Int → Option Int) (R03_Words : (List UInt8) → Option (List Int)) : List (Nat × Summ) := [(44, s44 R03_Turn), (70, s70 R03_Words)]
def head46_1 (w : List Int) (w1 : List Int) (check1 : Int) (i : Int) : VM :=
  ⟨⟨46, 43, [(0, .int .i64 check1), (7, .slice (some ⟨0, 0, none⟩) w.length 1), (8, .slice (some ⟨1, 0, none⟩) w1.length 1), (9, .int .i64 i)], [.code k46_15, .inLoop k46_15, .inBlock 0, .code k46_20], [], false, none⟩, [], [(0, .row true (vI .i64 w)), (1, .row true (vI .i64 w1))], 2⟩
theorem loop46_1 (R03_Turn : Int → Int → Int → Option Int) (R03_Words : (List UInt8) → Option (List Int)) (hS : SumsOK Try.prog (aget (sums46 R03_Turn R03_Words))) (w : List Int) (w1 : List Int) (res : Int) : ∀ fuel (st : Int × Int) (o : Int), iter (fun st => R03_Turned_s1 R03_Turn w w1 st.1 st.2) fuel st = some o → (o = res) →
    Leads Try.prog 46 0 (head46_1 w w1 st.1 st.2) (fun v H _ => post46 res v H) := by
  intro fuel st o h hc
  refine iter_leads (head := fun st => head46_1 w w1 st.1 st.2) (C := fun o => (o = res)) ?_ fuel st o h hc
  clear h hc o st fuel
  intro st o h hc
  obtain ⟨check1, i⟩ := st
  replace h : R03_Turned_s1 R03_Turn w w1 check1 i = some o := h
  show Leads Try.prog 46 0 (head46_1 w w1 check1 i) (fun v H _ => post46 res v H)
  unfold R03_Turned_s1 at h
  refine ev_ok tab_ok hS true 3000 ?_
  conv => whnf
  refine br.h2 h ?_ ?_ ?_
  · rfl
  · clear h; intro hb h; conv => whnf
    all_goals (cases h; cases hc)
    all_goals exact rfl
  clear h; intro hb h; conv => whnf
  replace h := oreq.elim h; have hb := h.1; replace h := h.2
  first | (refine req.intro hb ?_; conv => whnf) | skip
  obtain ⟨e, hy, h2⟩ := obind.elim h; clear h; have h := h2; clear h2
  refine rd.I hy (by first | rfl | (rw [Nat.zero_add, Nat.mul_one]; done) | omega) ?_
  conv => whnf
  replace h := oreq.elim h; have hb := h.1; replace h := h.2
  first | (refine req.intro hb ?_; conv => whnf) | skip
  obtain ⟨e1, hy, h2⟩ := obind.elim h; clear h; have h := h2; clear h2
  refine rd.I hy (by first | rfl | (rw [Nat.zero_add, Nat.mul_one]; done) | omega) ?_
  conv => whnf
  obtain ⟨t1, hy, h2⟩ := obind.elim h; clear h; have h := h2; clear h2
  refine sumK.introF [] (sumRun_of (aqs := [.v (.int .i64 check1), .v (.int .i64 e), .v (.int .i64 e1)]) (ra_cons rfl (ra_cons rfl (ra_cons rfl ra_nil))) (r44_eq hy) rfl rfl rfl rfl) ?_
  conv => whnf
  cases h; simp only [Sum.elim_inl, Sum.elim_inr, head46_1] at hc
  refine Leads.re hc [(0, 0), (1, 1)] rfl ?_ ?_ <;> (repeat' first | exact trivial | refine ⟨⟨_, rfl, rfl⟩, ?_⟩ | refine ⟨⟨_, _, rfl, rfl, .rowF (vI_flat _ _) id⟩, ?_⟩ | refine ⟨⟨_, _, rfl, rfl, .rowF (vS_flat _) id⟩, ?_⟩ | refine ⟨⟨_, _, rfl, rfl, .rowF (vB_flat _) id⟩, ?_⟩ | refine ⟨⟨_, _, rfl, rfl, .cells rfl⟩, ?_⟩ | refine ⟨⟨_, _, rfl, rfl, .row rfl id⟩, ?_⟩ | refine ⟨⟨_, _, rfl, rfl, .cr rfl⟩, ?_⟩ | refine ⟨⟨_, _, rfl, rfl, .rc rfl⟩, ?_⟩ | refine ⟨⟨_, _, rfl, rfl, .marks⟩, ?_⟩ | refine ⟨⟨_, _, rfl, rfl, .siter _ _⟩, ?_⟩ | refine ⟨⟨_, _, rfl, rfl, .loop rfl rfl rfl rfl (by repeat' first | exact trivial | refine ⟨rfl, ?_⟩) rfl rfl rfl rfl⟩, ?_⟩)
theorem leads46 (R03_Turn : Int → Int → Int → Option Int) (R03_Words : (List UInt8) → Option (List Int)) (hS : SumsOK Try.prog (aget (sums46 R03_Turn R03_Words))) (check : Int) (froma1 : List UInt8) (to : List UInt8) (res : Int) (h : R03_TurnedF R03_Turn R03_Words check froma1 to = some res) :
    Leads Try.prog 46 0 ⟨⟨46, 43, [(0, .int .i64 check), (1, .string ⟨⟨froma1⟩⟩), (2, .string ⟨⟨to⟩⟩)], [.code k46_24], [], false, none⟩, [], [], 0⟩ (fun v H _ => post46 res v H) := by
  unfold R03_TurnedF at h
  refine ev_ok tab_ok hS true 3000 ?_
  conv => whnf
  let t : Bool := (froma1.length : Int) != (to.length : Int)
  refine br.h h ?_ ?_ ?_
  · rfl
  · clear h; intro hb h; conv => whnf
    all_goals (cases h)
    all_goals exact rfl
  clear h; intro hb h; conv => whnf
  refine br.h h ?_ ?_ ?_
  · rfl
  · clear h; intro hb h; conv => whnf
    all_goals (cases h)
    all_goals exact rfl
  clear h; intro hb h; conv => whnf
  obtain ⟨w, hy, h2⟩ := obind.elim h; clear h; have h := h2; clear h2
  refine sumK.introF [] (sumRun_of (aqs := [.v (.string ⟨⟨froma1⟩⟩)]) (ra_cons rfl ra_nil) (r70_eq hy) rfl rfl (by first | rfl | exact addNew_I | exact addNew_B | exact addNew_S) rfl) ?_
  conv => whnf
  obtain ⟨w1, hy, h2⟩ := obind.elim h; clear h; have h := h2; clear h2
  refine sumK.introF [] (sumRun_of (aqs := [.v (.string ⟨⟨to⟩⟩)]) (ra_cons rfl ra_nil) (r70_eq hy) rfl rfl (by first | rfl | exact addNew_I | exact addNew_B | exact addNew_S) rfl) ?_
  conv => whnf
  have hl := loop46_1 R03_Turn R03_Words hS _ _ res _ _ _ h rfl; simp only [head46_1] at hl
  refine Leads.re hl [(0, 0), (1, 1)] rfl ?_ ?_ <;> (repeat' first | exact trivial | refine ⟨⟨_, rfl, rfl⟩, ?_⟩ | refine ⟨⟨_, _, rfl, rfl, .rowF (vI_flat _ _) id⟩, ?_⟩ | refine ⟨⟨_, _, rfl, rfl, .rowF (vS_flat _) id⟩, ?_⟩ | refine ⟨⟨_, _, rfl, rfl, .rowF (vB_flat _) id⟩, ?_⟩ | refine ⟨⟨_, _, rfl, rfl, .cells rfl⟩, ?_⟩ | refine ⟨⟨_, _, rfl, rfl, .row rfl id⟩, ?_⟩ | refine ⟨⟨_, _, rfl, rfl, .cr rfl⟩, ?_⟩ | refine ⟨⟨_, _, rfl, rfl, .rc rfl⟩, ?_⟩ | refine ⟨⟨_, _, rfl, rfl, .marks⟩, ?_⟩ | refine ⟨⟨_, _, rfl, rfl, .siter _ _⟩, ?_⟩ | refine ⟨⟨_, _, rfl, rfl, .loop rfl rfl rfl rfl (by repeat' first | exact trivial | refine ⟨rfl, ?_⟩) rfl rfl rfl rfl⟩, ?_⟩)
theorem ok46 (R03_Turn : Int → Int → Int → Option Int) (R03_Words : (List UInt8) → Option (List Int)) (hS : SumsOK Try.prog (aget (sums46 R03_Turn R03_Words))) : SumOK Try.prog 46 (s46 (R03_TurnedF R03_Turn R03_Words)) := by
  refine SumOK.of_leads tab_ok (fun ar r ha hr => ?_) ⟨Try.f46, rfl, by decide, rfl⟩
  simp only [s46] at ha hr
  unfold r46 at hr
  split at hr <;> try (cases hr; done)
  split at hr <;> cases hr
  rename_i x h
  refine ⟨_, rfl, (leads46 R03_Turn R03_Words hS _ _ _ x h).mono fun v H t hp => ?_⟩
  cases hp
  exact Res.val rfl trivial
def R03_Turned : Int → (List UInt8) → (List UInt8) → Option Int := R03_TurnedF R03_Turn R03_Words
theorem lift46 : SumOK Try.prog 46 (s46 R03_Turned) := ok46 R03_Turn R03_Words (SumsOK.of_tab ⟨lift44, lift70, trivial⟩)
end Go.Vm.Code

namespace Go.Vm.Code
open Go Go.Vm Go.Proofs
set_option maxRecDepth 100000
set_option maxHeartbeats 4000000
set_option linter.unusedVariables false

/-! cloakroom/cloakroomref03.Sum -/
def R03_SumF (R03_Add : (List Int) → Option Int) (R03_Words : (List UInt8) → Option (List Int)) (s : List UInt8) : Option Int :=
  (R03_Words s).bind fun w =>
  (R03_Add w).bind fun a =>
  some (a)
def post39 (x : Int) (v : Value) (H : Hp) : Prop := v = .int .i64 x
def r39 (g : (List UInt8) → Option Int) : List SArg → Option SRes
  | [.v (.string ⟨⟨a0_1⟩⟩)] => match g a0_1 with | some x => some ⟨.int .i64 x, [], []⟩ | none => none
  | _ => none
def s39 (g : (List UInt8) → Option Int) : Summ := ⟨[.v], r39 g⟩
theorem r39_eq {g : (List UInt8) → Option Int} {a0_1 : List UInt8} {x : Int} (hx : g a0_1 = some x) : (s39 g).run [.v (.string ⟨⟨a0_1⟩⟩)] = some ⟨.int .i64 x, [], []⟩ := by
  show r39 g [.v (.string ⟨⟨a0_1⟩⟩)] = _
  simp only [r39, hx]
abbrev sums39 (R03_Add : (List Int) → Option Int) (R03_Words : (List UInt8) → Option (List Int)) : List (Nat × Summ) := [(69, s69 R03_Add), (70, s70 R03_Words)]
theorem leads39 (R03_Add : (List Int) → Option Int) (R03_Words : (List UInt8) → Option (List Int)) (hS : SumsOK Try.prog (aget (sums39 R03_Add R03_Words))) (s : List UInt8) (res : Int) (h : R03_SumF R03_Add R03_Words s = some res) :
    Leads Try.prog 39 0 ⟨⟨39, 6, [(0, .string ⟨⟨s⟩⟩)], [.code k39_3], [], false, none⟩, [], [], 0⟩ (fun v H _ => post39 res v H) := by
  unfold R03_SumF at h
  refine ev_ok tab_ok hS true 3000 ?_
  conv => whnf
  obtain ⟨w, hy, h2⟩ := obind.elim h; clear h; have h := h2; clear h2
  refine sumK.introF [] (sumRun_of (aqs := [.v (.string ⟨⟨s⟩⟩)]) (ra_cons rfl ra_nil) (r70_eq hy) rfl rfl (by first | rfl | exact addNew_I | exact addNew_B | exact addNew_S) rfl) ?_
  conv => whnf
  obtain ⟨a, hy, h2⟩ := obind.elim h; clear h; have h := h2; clear h2
  refine sumK.introF [] (sumRun_of (aqs := [.sl (w : List Int).length (vI .i64 w)]) (ra_cons (by first | rfl | exact ra_allI rfl rfl (by first | rfl | omega) (by first | rfl | (simp; done)) | exact ra_slI rfl rfl (by first | rfl | omega) (by first | rfl | omega) (by first | omega | (simp at *; omega))) ra_nil) (r69_eq hy) rfl rfl rfl rfl) ?_
  conv => whnf
  all_goals (cases h)
  all_goals exact rfl
theorem ok39 (R03_Add : (List Int) → Option Int) (R03_Words : (List UInt8) → Option (List Int)) (hS : SumsOK Try.prog (aget (sums39 R03_Add R03_Words))) : SumOK Try.prog 39 (s39 (R03_SumF R03_Add R03_Words)) := by
  refine SumOK.of_leads tab_ok (fun ar r ha hr => ?_) ⟨Try.f39, rfl, by decide, rfl⟩
  simp only [s39] at ha hr
  unfold r39 at hr
  split at hr <;> try (cases hr; done)
  split at hr <;> cases hr
  rename_i x h
  refine ⟨_, rfl, (leads39 R03_Add R03_Words hS _ x h).mono fun v H t hp => ?_⟩
  cases hp
  exact Res.val rfl trivial
def R03_Sum : (List UInt8) → Option Int := R03_SumF R03_Add R03_Words
theorem lift39 : SumOK Try.prog 39 (s39 R03_Sum) := ok39 R03_Add R03_Words (SumsOK.of_tab ⟨lift69, lift70, trivial⟩)
end Go.Vm.Code

namespace Go.Vm.Code
open Go Go.Vm Go.Proofs
set_option maxRecDepth 100000
set_option maxHeartbeats 4000000
set_option linter.unusedVariables false

/-! cloakroom/cloakroomref03.Of -/
def R03_OfF (R03_Sum : (List UInt8) → Option Int) (s : List UInt8) : Option Int :=
  (R03_Sum s).bind fun s1 =>
  some (wI .i64 (65535 - s1))
def post41 (x : Int) (v : Value) (H : Hp) : Prop := v = .int .i64 x
def r41 (g : (List UInt8) → Option Int) : List SArg → Option SRes
  | [.v (.string ⟨⟨a0_1⟩⟩)] => match g a0_1 with | some x => some ⟨.int .i64 x, [], []⟩ | none => none
  | _ => none
def s41 (g : (List UInt8) → Option Int) : Summ := ⟨[.v], r41 g⟩
theorem r41_eq {g : (List UInt8) → Option Int} {a0_1 : List UInt8} {x : Int} (hx : g a0_1 = some x) : (s41 g).run [.v (.string ⟨⟨a0_1⟩⟩)] = some ⟨.int .i64 x, [], []⟩ := by
  show r41 g [.v (.string ⟨⟨a0_1⟩⟩)] = _
  simp only [r41, hx]
abbrev sums41 (R03_Sum : (List UInt8) → Option Int) : List (Nat × Summ) := [(39, s39 R03_Sum)]
theorem leads41 (R03_Sum : (List UInt8) → Option Int) (hS : SumsOK Try.prog (aget (sums41 R03_Sum))) (s : List UInt8) (res : Int) (h : R03_OfF R03_Sum s = some res) :
    Leads Try.prog 41 0 ⟨⟨41, 6, [(0, .string ⟨⟨s⟩⟩)], [.code k41_3], [], false, none⟩, [], [], 0⟩ (fun v H _ => post41 res v H) := by
  unfold R03_OfF at h
  refine ev_ok tab_ok hS true 3000 ?_
  conv => whnf
  obtain ⟨s1, hy, h2⟩ := obind.elim h; clear h; have h := h2; clear h2
  refine sumK.introF [] (sumRun_of (aqs := [.v (.string ⟨⟨s⟩⟩)]) (ra_cons rfl ra_nil) (r39_eq hy) rfl rfl rfl rfl) ?_
  conv => whnf
  all_goals (cases h)
  all_goals exact rfl
theorem ok41 (R03_Sum : (List UInt8) → Option Int) (hS : SumsOK Try.prog (aget (sums41 R03_Sum))) : SumOK Try.prog 41 (s41 (R03_OfF R03_Sum)) := by
  refine SumOK.of_leads tab_ok (fun ar r ha hr => ?_) ⟨Try.f41, rfl, by decide, rfl⟩
  simp only [s41] at ha hr
  unfold r41 at hr
  split at hr <;> try (cases hr; done)
  split at hr <;> cases hr
  rename_i x h
  refine ⟨_, rfl, (leads41 R03_Sum hS _ x h).mono fun v H t hp => ?_⟩
  cases hp
  exact Res.val rfl trivial
def R03_Of : (List UInt8) → Option Int := R03_OfF R03_Sum
theorem lift41 : SumOK Try.prog 41 (s41 R03_Of) := ok41 R03_Sum (SumsOK.of_tab ⟨lift39, trivial⟩)
end Go.Vm.Code

namespace Go.Vm.Code
open Go Go.Vm Go.Proofs
set_option maxRecDepth 100000
set_option maxHeartbeats 4000000
set_option linter.unusedVariables false

/-! cloakroom/check.Of -/
def check_OfF (check_Sum : (List UInt8) → Option Int) (s : List UInt8) : Option Int :=
  (check_Sum s).bind fun s1 =>
  some (wI .i64 (65535 - s1))
def post40 (x : Int) (v : Value) (H : Hp) : Prop := v = .int .i64 x
def r40 (g : (List UInt8) → Option Int) : List SArg → Option SRes
  | [.v (.string ⟨⟨a0_1⟩⟩)] => match g a0_1 with | some x => some ⟨.int .i64 x, [], []⟩ | none => none
  | _ => none
def s40 (g : (List UInt8) → Option Int) : Summ := ⟨[.v], r40 g⟩
theorem r40_eq {g : (List UInt8) → Option Int} {a0_1 : List UInt8} {x : Int} (hx : g a0_1 = some x) : (s40 g).run [.v (.string ⟨⟨a0_1⟩⟩)] = some ⟨.int .i64 x, [], []⟩ := by
  show r40 g [.v (.string ⟨⟨a0_1⟩⟩)] = _
  simp only [r40, hx]
abbrev sums40 (check_Sum : (List UInt8) → Option Int) : List (Nat × Summ) := [(29, s29 check_Sum)]
theorem leads40 (check_Sum : (List UInt8) → Option Int) (hS : SumsOK Try.prog (aget (sums40 check_Sum))) (s : List UInt8) (res : Int) (h : check_OfF check_Sum s = some res) :
    Leads Try.prog 40 0 ⟨⟨40, 6, [(0, .string ⟨⟨s⟩⟩)], [.code k40_3], [], false, none⟩, [], [], 0⟩ (fun v H _ => post40 res v H) := by
  unfold check_OfF at h
  refine ev_ok tab_ok hS true 3000 ?_
  conv => whnf
  obtain ⟨s1, hy, h2⟩ := obind.elim h; clear h; have h := h2; clear h2
  refine sumK.introF [] (sumRun_of (aqs := [.v (.string ⟨⟨s⟩⟩)]) (ra_cons rfl ra_nil) (r29_eq hy) rfl rfl rfl rfl) ?_
  conv => whnf
  all_goals (cases h)
  all_goals exact rfl
theorem ok40 (check_Sum : (List UInt8) → Option Int) (hS : SumsOK Try.prog (aget (sums40 check_Sum))) : SumOK Try.prog 40 (s40 (check_OfF check_Sum)) := by
  refine SumOK.of_leads tab_ok (fun ar r ha hr => ?_) ⟨Try.f40, rfl, by decide, rfl⟩
  simp only [s40] at ha hr
  unfold r40 at hr
  split at hr <;> try (cases hr; done)
  split at hr <;> cases hr
  rename_i x h
  refine ⟨_, rfl, (leads40 check_Sum hS _ x h).mono fun v H t hp => ?_⟩
  cases hp
  exact Res.val rfl trivial
def check_Of : (List UInt8) → Option Int := check_OfF check_Sum
theorem lift40 : SumOK Try.prog 40 (s40 check_Of) := ok40 check_Sum (SumsOK.of_tab ⟨lift29, trivial⟩)
end Go.Vm.Code

/- Chapter 3 in plain words: the other functions. -/
namespace Go.Vm.Code
open Go Go.Vm

theorem getS_two {s : List UInt8} {i : Nat} (h : i + 1 < s.length) : getS s (i : Int) 2 = (((s[i].toNat * 256 + s[i + 1].toNat : Nat) : Int), true) := by
  unfold getS
  rw [if_pos (by omega)]
  have e : (s.drop (i : Int).toNat).take (2 : Int).toNat = [s[i], s[i + 1]] := by
    show (s.drop i).take 2 = _
    rw [List.drop_eq_getElem_cons (by omega : i < s.length), List.drop_eq_getElem_cons h]; rfl
  rw [e]; simp [val_cons]
/-- the words of bytes -/
def wordsL : List UInt8 → List Int
  | [] => []
  | [b] => [((b.toNat * 256 : Nat) : Int)]
  | b :: c :: l => ((b.toNat * 256 + c.toNat : Nat) : Int) :: wordsL l
theorem wordsL_two {s : List UInt8} {i : Nat} (h : i + 1 < s.length) : wordsL (s.drop i) = ((s[i].toNat * 256 + s[i + 1].toNat : Nat) : Int) :: wordsL (s.drop (i + 2)) := by
  rw [List.drop_eq_getElem_cons (by omega : i < s.length), List.drop_eq_getElem_cons h]; rfl
theorem wordsL_pad : ∀ s : List UInt8, s.length % 2 = 1 → wordsL (s ++ [0]) = wordsL s
  | [], h => by simp at h
  | [b], _ => by
    show [((b.toNat * 256 + 0 : Nat) : Int)] = [((b.toNat * 256 : Nat) : Int)]
    rw [Nat.add_zero]
  | b :: c :: l, h => by
    have := wordsL_pad l (by simp at h; omega)
    simp only [List.cons_append, wordsL, this]
theorem wordsL_sum : ∀ s : List UInt8, (wordsL s).sum = (wsum s : Int)
  | [] => rfl
  | [b] => by simp only [wordsL, wsum, List.sum_cons, List.sum_nil, Int.add_zero]
  | b :: c :: l => by
    have := wordsL_sum l
    simp only [wordsL, wsum, List.sum_cons, this]; omega
theorem wordsL_rng : ∀ s : List UInt8, ∀ e ∈ wordsL s, 0 ≤ e ∧ e ≤ 65535
  | [], e, h => by simp [wordsL] at h
  | [b], e, h => by simp [wordsL] at h; have := b.toNat_lt; omega
  | b :: c :: l, e, h => by
    simp only [wordsL, List.mem_cons] at h
    rcases h with rfl | h
    · have := b.toNat_lt; have := c.toNat_lt; omega
    · exact wordsL_rng l e h
theorem wordsL_len : ∀ s : List UInt8, (wordsL s).length = (s.length + 1) / 2
  | [] => rfl
  | [b] => by simp [wordsL]
  | b :: c :: l => by
    have := wordsL_len l
    simp only [wordsL, List.length_cons, this]; omega

theorem R03_Words_loop {s : List UInt8} (h : s.length < 2 ^ 40) (he : s.length % 2 = 0) : iter (fun (st : List UInt8 × Int × List Int) => R03_Words_s1 R02_Must st.1 st.2.1 st.2.2) FUEL (s, 0, []) = some (wordsL s) := by
  have key := iter_eq (step := fun (st : List UInt8 × Int × List Int) => R03_Words_s1 R02_Must st.1 st.2.1 st.2.2) (fun st => st.2.2 ++ wordsL (s.drop st.2.1.toNat)) (fun st => st.1 = s ∧ ∃ i : Nat, st.2.1 = i ∧ i % 2 = 0 ∧ i ≤ s.length ∧ st.2.2.length ≤ i) (fun st => (s.length - st.2.1).toNat) ?_ FUEL (s, 0, []) ⟨rfl, 0, rfl, by omega, by omega, by simp⟩ (by rw [FUEL_eq]; simp only; omega)
  · rw [key]; simp
  rintro ⟨s1, p, out⟩ ⟨h1, i, h2, h3, h4, h5⟩
  simp only at h1 h2 h5 ⊢
  subst h1 h2
  unfold R03_Words_s1
  by_cases hi : i < s1.length
  · have hi2 : i + 1 < s1.length := by omega
    refine .inr ⟨(s1, ((i + 2 : Nat) : Int), out ++ [((s1[i].toNat * 256 + s1[i + 1].toNat : Nat) : Int)]), ?_, ⟨rfl, i + 2, rfl, by omega, by omega, by simp; omega⟩, by simp only; omega, ?_⟩
    · have b1 := s1[i].toNat_lt
      have b2 := s1[i + 1].toNat_lt
      rw [cond_p (by omega), R02_Must_eq (by omega), getS_two hi2, Option.bind_some, oreq_p (by omega), wI64 (by omega) (by omega), wI64 (by omega) (by omega)]; rfl
    · simp only [Int.toNat_natCast]
      rw [wordsL_two hi2]; simp
  · refine .inl ?_
    rw [cond_n (by omega)]
    simp [List.drop_eq_nil_of_le (by omega : s1.length ≤ i), wordsL]
theorem R03_Words_eq {s : List UInt8} (h : s.length < 2 ^ 39) : R03_Words s = some (wordsL s) := by
  unfold R03_Words R03_WordsF
  have ea : ((s.length : Int).tmod 2 == 1) = decide (s.length % 2 = 1) := by
    rw [Int.tmod_eq_emod_of_nonneg (by omega), Bool.eq_iff_iff, beq_iff_eq, decide_eq_true_eq]; omega
  rw [ea]
  by_cases h2 : s.length % 2 = 1
  · rw [cond_p h2, oreq_p (by omega), R03_Words_loop (by simp only [List.length_append, List.length_cons, List.length_nil]; omega) (by simp only [List.length_append, List.length_cons, List.length_nil]; omega), wordsL_pad s h2]
  · rw [cond_n h2, R03_Words_loop (by omega) (by omega)]
theorem R03_Add1_eq {l : List Int} {n : Int} (h0 : 0 ≤ n) (h1 : n < 2 ^ 62) : iter (fun st => R03_Add_s1 l st) FUEL n = some ((norm n.toNat : Nat) : Int) := by
  refine iter_eq (fun n => ((norm n.toNat : Nat) : Int)) (fun n => 0 ≤ n ∧ n < 2 ^ 62) (fun n => n.toNat) ?_ FUEL _ ⟨h0, h1⟩ (by rw [FUEL_eq]; omega)
  intro s ⟨a, b⟩
  unfold R03_Add_s1
  by_cases hs : s > 65535
  · refine .inr ⟨s % 65536 + s / 65536, ?_, ⟨by omega, by omega⟩, by omega, ?_⟩
    · rw [cond_p hs, Int.tdiv_eq_ediv_of_nonneg a, Int.tmod_eq_emod_of_nonneg a, wI64 (n := s / 65536) (by omega) (by omega), wI64 (by omega) (by omega)]
    · have : norm (s % 65536 + s / 65536).toNat = norm s.toNat :=
        (norm_eq (norm_le _) (by have := norm_mod (s % 65536 + s / 65536).toNat; omega) (by have := norm_zero (s % 65536 + s / 65536).toNat; omega)).symm
      rw [this]
  · refine .inl ?_
    rw [cond_n hs]
    have := norm_same (n := s.toNat) (by omega)
    simp only [this]
    rw [Int.toNat_of_nonneg a]
theorem sum_nonneg : ∀ {l : List Int}, (∀ e ∈ l, 0 ≤ e ∧ e ≤ 65535) → 0 ≤ l.sum
  | [], _ => by simp
  | x :: l, h => by
    have h1 := h x (by simp)
    have h2 := sum_nonneg (l := l) fun e he => h e (by simp [he])
    simp only [List.sum_cons]; omega
theorem R03_Add_eq {l : List Int} (hl : l.length < 2 ^ 40) (hr : ∀ e ∈ l, 0 ≤ e ∧ e ≤ 65535) : R03_Add l = some ((norm l.sum.toNat : Nat) : Int) := by
  unfold R03_Add R03_AddF
  have key := iter_eq (step := fun (st : Int × Int) => R03_Add_s2 l st.1 st.2) (fun st => ((norm (st.1 + (l.drop st.2.toNat).sum).toNat : Nat) : Int)) (fun st => 0 ≤ st.1 ∧ 0 ≤ st.2 ∧ st.2 ≤ l.length ∧ st.1 ≤ st.2 * 65535) (fun st => (l.length - st.2).toNat) ?_ FUEL (0, 0) ⟨by simp, by simp, by simp, by simp⟩ (by rw [FUEL_eq]; simp only; omega)
  · rw [key]; simp
  rintro ⟨n, p⟩ ⟨g1, g2, g3, g4⟩
  simp only at g1 g2 g3 g4 ⊢
  obtain ⟨i, rfl⟩ := Int.eq_ofNat_of_zero_le g2
  simp only [Int.toNat_natCast]
  unfold R03_Add_s2
  by_cases hi : i < l.length
  · have hx := hr l[i] (List.getElem_mem hi)
    refine .inr ⟨(n + l[i], ((i + 1 : Nat) : Int)), ?_, ⟨by simp only; omega, by simp only; omega, by simp only; omega, by simp only; omega⟩, by simp only; omega, ?_⟩
    · simp (disch := omega) only [cond_p, oreq_p, Int.toNat_natCast, List.getElem?_eq_getElem, Option.bind_some, wI64]; rfl
    · simp only [Int.toNat_natCast]
      rw [List.drop_eq_getElem_cons hi, List.sum_cons, Int.add_assoc]
  · refine .inl ?_
    rw [cond_n (by omega), R03_Add1_eq g1 (by omega), List.drop_eq_nil_of_le (by omega)]
    simp
theorem R03_Sum_eq {s : List UInt8} (h : s.length < 2 ^ 39) : R03_Sum s = some ((norm (wsum s) : Nat) : Int) := by
  unfold R03_Sum R03_SumF
  rw [R03_Words_eq h, Option.bind_some, R03_Add_eq (by rw [wordsL_len]; omega) (wordsL_rng s), wordsL_sum]; rfl

/-- is it a word? -/
def isW (n : Int) : Bool := decide (0 ≤ n ∧ n ≤ 65535)
theorem may_eq {l : List Int} (hl : l.length < 2 ^ 40) : check_may l = some (l.all isW) := by
  unfold check_may check_mayF
  have key := iter_eq (step := fun (st : Int) => check_may_s1 l st) (fun st => (l.drop st.toNat).all isW) (fun st => 0 ≤ st ∧ st ≤ l.length) (fun st => (l.length - st).toNat) ?_ FUEL 0 ⟨by omega, by omega⟩ (by rw [FUEL_eq]; omega)
  · rw [key]; simp
  rintro p ⟨g1, g2⟩
  obtain ⟨i, rfl⟩ := Int.eq_ofNat_of_zero_le g1
  simp only [Int.toNat_natCast]
  unfold check_may_s1
  by_cases hi : i < l.length
  · have e1 : (l.drop i).all isW = (isW l[i] && (l.drop (i + 1)).all isW) := by rw [List.drop_eq_getElem_cons hi]; rfl
    by_cases h1 : l[i] < 0
    · refine .inl ?_
      simp (disch := omega) only [cond_p, oreq_p, Int.toNat_natCast, List.getElem?_eq_getElem, Option.bind_some]
      rw [e1, show isW l[i] = false from decide_eq_false (by omega)]; rfl
    · by_cases h2 : l[i] > 65535
      · refine .inl ?_
        simp (disch := omega) only [cond_p, cond_n, oreq_p, Int.toNat_natCast, List.getElem?_eq_getElem, Option.bind_some]
        rw [e1, show isW l[i] = false from decide_eq_false (by omega)]; rfl
      · refine .inr ⟨((i + 1 : Nat) : Int), ?_, ⟨by omega, by omega⟩, by omega, ?_⟩
        · simp (disch := omega) only [cond_p, cond_n, oreq_p, Int.toNat_natCast, List.getElem?_eq_getElem, Option.bind_some, wI64]; rfl
        · simp only [Int.toNat_natCast]
          rw [e1, show isW l[i] = true from decide_eq_true (by omega)]; rfl
  · refine .inl ?_
    rw [cond_n (by omega), List.drop_eq_nil_of_le (by omega)]; rfl

/-- a check, turned -/
def turnI (c f t : Int) : Int := if isW c && (isW f && isW t) then 65535 - ((norm ((65535 - c) + ((65535 - f) + t)).toNat : Nat) : Int) else 0
theorem isW_iff {n : Int} : isW n = true ↔ 0 ≤ n ∧ n ≤ 65535 := by unfold isW; rw [decide_eq_true_eq]
theorem turn_rng (c f t : Int) : isW (turnI c f t) = true := by
  rw [isW_iff]; unfold turnI
  have := norm_le ((65535 - c) + ((65535 - f) + t)).toNat
  split <;> omega
theorem Turn_eq {c f t : Int} : check_Turn c f t = some (turnI c f t) := by
  unfold check_Turn check_TurnF turnI
  rw [may_eq (by simp), Option.bind_some]
  simp only [List.all_cons, List.all_nil, Bool.and_true]
  cases hb : (isW c && (isW f && isW t)) with
  | false => rfl
  | true =>
    simp only [Bool.and_eq_true, isW_iff] at hb
    rw [Bool.not_true, cond_false]
    simp only [if_true]
    rw [wI64 (n := 65535 - c) (by omega) (by omega), wI64 (n := 65535 - c + 65535) (by omega) (by omega), wI64 (n := 65535 - c + 65535 - f) (by omega) (by omega), wI64 (n := 65535 - c + 65535 - f + t) (by omega) (by omega), fold_eq (by omega) (by omega), Option.bind_some]
    have e : 65535 - c + 65535 - f + t = 65535 - c + (65535 - f + t) := by omega
    have := norm_le (65535 - c + (65535 - f + t)).toNat
    rw [e, wI64 (by omega) (by omega)]
theorem word_eq {n : Int} : R03_word n = some (isW n) := by
  unfold R03_word R03_wordF isW
  by_cases h : n ≥ 0
  · rw [cond_p h]; congr 1; rw [Bool.eq_iff_iff, decide_eq_true_eq, decide_eq_true_eq]; omega
  · rw [cond_n h]; congr 1; symm; exact decide_eq_false (by omega)
theorem R03_Turn_eq {c f t : Int} : R03_Turn c f t = some (turnI c f t) := by
  unfold R03_Turn R03_TurnF turnI
  rw [word_eq, word_eq, word_eq]
  simp only [Option.bind_some]
  cases h1 : isW c with
  | false => rfl
  | true =>
    cases h2 : isW f with
    | false => rfl
    | true =>
      cases h3 : isW t with
      | false => rfl
      | true =>
        rw [isW_iff] at h1 h2 h3
        simp only [Bool.not_true, cond_false, Bool.and_self, if_true]
        rw [wI64 (n := 65535 - c) (by omega) (by omega), wI64 (n := 65535 - f) (by omega) (by omega), R03_Add_eq (by simp) (by
          intro e he; simp only [List.mem_cons, List.not_mem_nil, or_false] at he; rcases he with rfl | rfl | rfl <;> omega), Option.bind_some]
        simp only [List.sum_cons, List.sum_nil, Int.add_zero]
        have := norm_le (65535 - c + (65535 - f + t)).toNat
        rw [wI64 (by omega) (by omega)]
/-- a check, turned by words -/
def turnedL (c : Int) : List Int → List Int → Int
  | x :: xs, y :: ys => turnedL (turnI c x y) xs ys
  | _, _ => c
def turnedS (c : Int) (a b : List UInt8) : Int := if a.length = b.length ∧ a.length % 2 = 0 then turnedL c (wordsL a) (wordsL b) else c
theorem Turned_eq {c : Int} {a b : List UInt8} (ha : a.length < 2 ^ 39) (hb : b.length < 2 ^ 39) : check_Turned c a b = some (turnedS c a b) := by
  unfold check_Turned check_TurnedF turnedS
  have e1 : ((a.length : Int) != (b.length : Int)) = decide (a.length ≠ b.length) := by
    rw [Bool.eq_iff_iff, bne_iff_ne, decide_eq_true_eq]; omega
  have e2 : (a.length : Int).tmod 2 > 0 ↔ ¬ a.length % 2 = 0 := by rw [Int.tmod_eq_emod_of_nonneg (by omega)]; omega
  simp only [e1]
  by_cases h1 : a.length ≠ b.length
  · rw [cond_p h1, if_neg (by omega)]
  rw [cond_n h1]
  by_cases h2 : a.length % 2 = 0
  · rw [cond_n (by rw [e2]; omega), if_pos (by omega)]
    have key := iter_eq (step := fun (st : Int × Int × Int) => check_Turned_s1 check_Turn octet_Get a b st.1 st.2.1 st.2.2) (fun st => turnedL st.2.1 (wordsL (a.drop st.1.toNat)) (wordsL (b.drop st.1.toNat))) (fun st => st.2.2 = st.1 ∧ ∃ i : Nat, st.1 = i ∧ i % 2 = 0 ∧ i ≤ a.length) (fun st => (a.length - st.1).toNat) ?_ FUEL (0, c, 0) ⟨rfl, 0, rfl, by omega, by omega⟩ (by rw [FUEL_eq]; simp only; omega)
    · rw [key]; simp
    rintro ⟨p, c1, p1⟩ ⟨g1, i, g2, g3, g4⟩
    simp only at g1 g2 ⊢
    subst g1 g2
    unfold check_Turned_s1
    by_cases hi : i < a.length
    · have hi2 : i + 1 < a.length := by omega
      have hj2 : i + 1 < b.length := by omega
      have b1 := a[i].toNat_lt
      have b2 := a[i + 1].toNat_lt
      have b3 := b[i].toNat_lt
      have b4 := b[i + 1].toNat_lt
      refine .inr ⟨(((i + 2 : Nat) : Int), turnI c1 ((a[i].toNat * 256 + a[i + 1].toNat : Nat) : Int) ((b[i].toNat * 256 + b[i + 1].toNat : Nat) : Int), ((i + 2 : Nat) : Int)), ?_, ⟨rfl, i + 2, rfl, by omega, by omega⟩, by simp only; omega, ?_⟩
      · have e5 : ((i : Int) + 1).toNat = i + 1 := by omega
        simp (disch := omega) only [wI64, oreq_p, cond_p, e5, Int.toNat_natCast, List.getElem?_eq_getElem, Option.bind_some, iorI64_low, octet_Get_eq, getS_two hj2, Turn_eq]
        congr 3 <;> (first | rfl | (congr 1 <;> omega) | omega)
      · simp only [Int.toNat_natCast]
        rw [wordsL_two hi2, wordsL_two hj2]; rfl
    · refine .inl ?_
      rw [cond_n (by omega)]
      simp [List.drop_eq_nil_of_le (by omega : a.length ≤ i), wordsL, turnedL]
  · rw [cond_p (by rw [e2]; omega), if_neg (by omega)]
theorem R03_Turned_eq {c : Int} {a b : List UInt8} (ha : a.length < 2 ^ 39) (hb : b.length < 2 ^ 39) : R03_Turned c a b = some (turnedS c a b) := by
  unfold R03_Turned R03_TurnedF turnedS
  have e1 : ((a.length : Int) != (b.length : Int)) = decide (a.length ≠ b.length) := by
    rw [Bool.eq_iff_iff, bne_iff_ne, decide_eq_true_eq]; omega
  have ea : ((a.length : Int).tmod 2 == 1) = decide (a.length % 2 = 1) := by
    rw [Int.tmod_eq_emod_of_nonneg (by omega), Bool.eq_iff_iff, beq_iff_eq, decide_eq_true_eq]; omega
  simp only [e1]
  by_cases h1 : a.length ≠ b.length
  · rw [cond_p h1, if_neg (by omega)]
  rw [cond_n h1, ea]
  by_cases h2 : a.length % 2 = 0
  · rw [cond_n (by omega), if_pos (by omega), R03_Words_eq ha, R03_Words_eq hb, Option.bind_some, Option.bind_some]
    generalize hw : wordsL a = w
    generalize hv : wordsL b = v
    have hl : w.length = v.length := by rw [← hw, ← hv, wordsL_len, wordsL_len]; omega
    have hl2 : w.length ≤ a.length := by rw [← hw, wordsL_len]; omega
    have key := iter_eq (step := fun (st : Int × Int) => R03_Turned_s1 R03_Turn w v st.1 st.2) (fun st => turnedL st.1 (w.drop st.2.toNat) (v.drop st.2.toNat)) (fun st => 0 ≤ st.2 ∧ st.2 ≤ w.length) (fun st => (w.length - st.2).toNat) ?_ FUEL (c, 0) ⟨by simp, by simp⟩ (by rw [FUEL_eq]; simp only; omega)
    · rw [key]; simp
    rintro ⟨c1, p⟩ ⟨g1, g2⟩
    simp only at g1 g2 ⊢
    obtain ⟨i, rfl⟩ := Int.eq_ofNat_of_zero_le g1
    unfold R03_Turned_s1
    by_cases hi : i < w.length
    · have hj : i < v.length := by omega
      refine .inr ⟨(turnI c1 w[i] v[i], ((i + 1 : Nat) : Int)), ?_, ⟨by simp only; omega, by simp only; omega⟩, by simp only; omega, ?_⟩
      · simp (disch := omega) only [wI64, oreq_p, cond_p, Int.toNat_natCast, List.getElem?_eq_getElem, Option.bind_some, R03_Turn_eq]; rfl
      · simp only [Int.toNat_natCast]
        rw [List.drop_eq_getElem_cons hi, List.drop_eq_getElem_cons hj]; rfl
    · refine .inl ?_
      rw [cond_n (by omega)]
      simp [List.drop_eq_nil_of_le (by omega : w.length ≤ i), turnedL]
  · rw [cond_p (by omega), if_neg (by omega)]
/-- a number put into bytes -/
def setS (s : List UInt8) (p k n : Int) : List UInt8 := if 1 ≤ k ∧ k ≤ 8 ∧ 0 ≤ p ∧ p + k ≤ s.length then s.take p.toNat ++ be n.toNat k.toNat ++ s.drop (p + k).toNat else s
theorem Set_eq {s : List UInt8} {p k n : Int} (hs : s.length < 2 ^ 40) (hn : 0 ≤ n) : check_Set s p k n = some (setS s p k n) := by
  unfold check_Set check_SetF setS
  rw [octet_Put_eq hn, Option.bind_some]
  unfold putS
  by_cases hk : 1 ≤ k ∧ k ≤ 8
  · rw [if_pos hk]
    have e : (be n.toNat k.toNat == []) = false := by
      rw [beq_eq_false_iff_ne]; intro h; have := congrArg List.length h; simp at this; omega
    rw [e, cond_false]
    by_cases h1 : p < 0
    · rw [cond_p h1, if_neg (by omega)]
    rw [cond_n h1, wI64 (n := (s.length : Int) - k) (by omega) (by omega)]
    by_cases h2 : (s.length : Int) - k < p
    · simp only []
      rw [cond_p h2, if_neg (by omega)]
    simp only []
    have e1 : (p + k).toNat = p.toNat + k.toNat := by omega
    have e2 : ((s.drop (p + k).toNat).take (s.length - (p + k).toNat)) = s.drop (p + k).toNat := List.take_of_length_le (by simp)
    rw [cond_n h2, oreq_p (by omega), wI64 (n := p + k) (by omega) (by omega), e2, oreq_p (by simp; omega), oreq_p (by omega), oreq_p (by simp; omega), if_pos (by omega)]
  · rw [if_neg hk, if_neg (by omega)]; rfl
theorem R03_Set_eq {s : List UInt8} {p k n : Int} (hs : s.length < 2 ^ 40) (hn : 0 ≤ n) (hn2 : n < 2 ^ 64) : R03_Set s p k n = some (setS s p k n) := by
  unfold R03_Set R03_SetF setS
  rw [R02_Get_eq (by omega), Option.bind_some]
  unfold getS
  by_cases hc : 1 ≤ k ∧ k ≤ 8 ∧ 0 ≤ p ∧ p + k ≤ s.length
  · rw [if_pos hc, if_pos hc]
    have e2 : ((s.drop (p + k).toNat).take (s.length - (p + k).toNat)) = s.drop (p + k).toNat := List.take_of_length_le (by simp)
    simp only [Bool.not_true, cond_false]
    rw [R02_Put_eq hn hn2, Option.bind_some, oreq_p (by omega), wI64 (n := p + k) (by omega) (by omega), e2]
    unfold putS
    rw [if_pos (by omega), oreq_p (by simp; omega), oreq_p (by omega), oreq_p (by simp; omega)]
  · rw [if_neg hc, if_neg hc]; rfl
theorem Of_eq {s : List UInt8} (h : s.length < 2 ^ 39) : check_Of s = some (65535 - ((norm (wsum s) : Nat) : Int)) := by
  unfold check_Of check_OfF
  have := norm_le (wsum s)
  rw [sum_eq s (by omega), Option.bind_some, wI64 (by omega) (by omega)]
theorem R03_Of_eq {s : List UInt8} (h : s.length < 2 ^ 39) : R03_Of s = some (65535 - ((norm (wsum s) : Nat) : Int)) := by
  unfold R03_Of R03_OfF
  have := norm_le (wsum s)
  rw [R03_Sum_eq h, Option.bind_some, wI64 (by omega) (by omega)]
theorem Right_eq {s : List UInt8} (h : s.length < 2 ^ 39) : check_Right s = some (((norm (wsum s) : Nat) : Int) == 65535) := by
  unfold check_Right check_RightF
  rw [sum_eq s (by omega), Option.bind_some]
end Go.Vm.Code

namespace Go.Vm.Code
open Go Go.Vm Go.Proofs
set_option maxRecDepth 100000
set_option maxHeartbeats 4000000
set_option linter.unusedVariables false

/-! cloakroom/cloakroomlaw03.CheckTells -/
def law03_CheckTellsF (law03_awake : Option Bool) (check_Sum : (List UInt8) → Option Int) (R03_Sum : (List UInt8) → Option Int) (check_Of : (List UInt8) → Option Int) (R03_Of : (List UInt8) → Option Int) (check_Right : (List UInt8) → Option Bool) (check_Turn : Int → Int → Int → Option Int) (R03_Turn : Int → Int → Int → Option Int) (check_Turned : Int → (List UInt8) → (List UInt8) → Option Int) (R03_Turned : Int → (List UInt8) → (List UInt8) → Option Int) (check_Set : (List UInt8) → Int → Int → Int → Option (List UInt8)) (R03_Set : (List UInt8) → Int → Int → Int → Option (List UInt8)) (s : List UInt8) (c : Int) (froma2 : Int) (to : Int) (a : List UInt8) (b : List UInt8) (n : Int) : Option Bool :=
  cond (decide ((s.length : Int) > 200))
    (
    (law03_awake).bind fun a1 =>
    some (a1))
    (
    cond (decide ((a.length : Int) > 60))
      (
      (law03_awake).bind fun a2 =>
      some (a2))
      (
      cond (decide ((b.length : Int) > 60))
        (
        (law03_awake).bind fun a3 =>
        some (a3))
        (
        (check_Sum s).bind fun s1 =>
        (R03_Sum s).bind fun s2 =>
        cond (s1 == s2)
          (
          (check_Of s).bind fun xo =>
          (R03_Of s).bind fun xo1 =>
          cond (xo == xo1)
            (
            (check_Right s).bind fun xr =>
            (R03_Sum s).bind fun s3 =>
            cond (xr == (s3 == 65535))
              (
              (check_Turn c froma2 to).bind fun t =>
              (R03_Turn c froma2 to).bind fun t1 =>
              cond (t == t1)
                (
                (check_Turned c a b).bind fun t2 =>
                (R03_Turned c a b).bind fun t3 =>
                cond (t2 == t3)
                  (
                  (check_Set s froma2 to n).bind fun s4 =>
                  (R03_Set s froma2 to n).bind fun s5 =>
                  cond (s4 == s5)
                    (
                    (law03_awake).bind fun a4 =>
                    some (a4))
                    (
                    some (false)))
                  (
                  some (false)))
                (
                some (false)))
              (
              some (false)))
            (
            some (false)))
          (
          some (false)))))
def post11 (x : Bool) (v : Value) (H : Hp) : Prop := v = .bool x
def r11 (g : (List UInt8) → Int → Int → Int → (List UInt8) → (List UInt8) → Int → Option Bool) : List SArg → Option SRes
  | [.v (.string ⟨⟨a0_1⟩⟩), .v (.int .i64 a1_1), .v (.int .i64 a2_1), .v (.int .i64 a3_1), .v (.string ⟨⟨a4_1⟩⟩), .v (.string ⟨⟨a5_1⟩⟩), .v (.int .u64 a6_1)] => match g a0_1 a1_1 a2_1 a3_1 a4_1 a5_1 a6_1 with | some x => some ⟨.bool x, [], []⟩ | none => none
  | _ => none
def s11 (g : (List UInt8) → Int → Int → Int → (List UInt8) → (List UInt8) → Int → Option Bool) : Summ := ⟨[.v, .v, .v, .v, .v, .v, .v], r11 g⟩
theorem r11_eq {g : (List UInt8) → Int → Int → Int → (List UInt8) → (List UInt8) → Int → Option Bool} {a0_1 : List UInt8} {a1_1 : Int} {a2_1 : Int} {a3_1 : Int} {a4_1 : List UInt8} {a5_1 : List UInt8} {a6_1 : Int} {x : Bool} (hx : g a0_1 a1_1 a2_1 a3_1 a4_1 a5_1 a6_1 = some x) : (s11 g).run [.v (.string ⟨⟨a0_1⟩⟩), .v (.int .i64 a1_1), .v (.int .i64 a2_1), .v (.int .i64 a3_1), .v (.string ⟨⟨a4_1⟩⟩), .v (.string ⟨⟨a5_1⟩⟩), .v (.int .u64 a6_1)] = some ⟨.bool x, [], []⟩ := by
  show r11 g [.v (.string ⟨⟨a0_1⟩⟩), .v (.int .i64 a1_1), .v (.int .i64 a2_1), .v (.int .i64 a3_1), .v (.string ⟨⟨a4_1⟩⟩), .v (.string ⟨⟨a5_1⟩⟩), .v (.int .u64 a6_1)] = _
  simp only [r11, hx]
abbrev sums11 (law03_awake : Option Bool) (check_Sum : (List UInt8) → Option Int) (R03_Sum : (List UInt8) → Option Int) (check_Of : (List UInt8) → Option Int) (R03_Of : (List UInt8) → Option Int) (check_Right : (List UInt8) → Option Bool) (check_Turn : Int → Int → Int → Option Int) (R03_Turn : Int → Int → Int → Option Int) (check_Turned : Int → (List UInt8) → (List UInt8) → Option Int) (R03_Turned : Int → (List UInt8) → (List UInt8) → Option Int) (check_Set : (List UInt8) → Int → Int → Int → Option (List UInt8)) (R03_Set : (List UInt8) → Int → Int → Int → Option (List UInt8)) : List (Nat × Summ) := [(28, s28 law03_awake), (29, s29 check_Sum), (39, s39 R03_Sum), (40, s40 check_Of), (41, s41 R03_Of), (42, s42 check_Right), (43, s43 check_Turn), (44, s44 R03_Turn), (45, s45 check_Turned), (46, s46 R03_Turned), (47, s47 check_Set), (48, s48 R03_Set)]
theorem leads11 (law03_awake : Option Bool) (check_Sum : (List UInt8) → Option Int) (R03_Sum : (List UInt8) → Option Int) (check_Of : (List UInt8) → Option Int) (R03_Of : (List UInt8) → Option Int) (check_Right : (List UInt8) → Option Bool) (check_Turn : Int → Int → Int → Option Int) (R03_Turn : Int → Int → Int → Option Int) (check_Turned : Int → (List UInt8) → (List UInt8) → Option Int) (R03_Turned : Int → (List UInt8) → (List UInt8) → Option Int) (check_Set : (List UInt8) → Int → Int → Int → Option (List UInt8)) (R03_Set : (List UInt8) → Int → Int → Int → Option (List UInt8)) (hS : SumsOK Try.prog (aget (sums11 law03_awake check_Sum R03_Sum check_Of R03_Of check_Right check_Turn R03_Turn check_Turned R03_Turned check_Set R03_Set))) (s : List UInt8) (c : Int) (froma2 : Int) (to : Int) (a : List UInt8) (b : List UInt8) (n : Int) (res : Bool) (h : law03_CheckTellsF law03_awake check_Sum R03_Sum check_Of R03_Of check_Right check_Turn R03_Turn check_Turned R03_Turned check_Set R03_Set s c froma2 to a b n = some res) :
    Leads Try.prog 11 0 ⟨⟨11, 87, [(0, .string ⟨⟨s⟩⟩), (1, .int .i64 c), (2, .int .i64 froma2), (3, .int .i64 to), (4, .string ⟨⟨a⟩⟩), (5, .string ⟨⟨b⟩⟩), (6, .int .u64 n)], [.code k11_9], [], false, none⟩, [], [], 0⟩ (fun v H _ => post11 res v H) := by
  unfold law03_CheckTellsF at h
  refine ev_ok tab_ok hS true 3000 ?_
  conv => whnf
  refine br.h h ?_ ?_ ?_
  · rfl
  · clear h; intro hb h; conv => whnf
    obtain ⟨a1, hy, h2⟩ := obind.elim h; clear h; have h := h2; clear h2
    refine sumK.introF [] (sumRun_of (aqs := []) ra_nil (r28_eq hy) rfl rfl rfl rfl) ?_
    conv => whnf
    all_goals (cases h)
    all_goals exact rfl
  clear h; intro hb h; conv => whnf
  refine br.h h ?_ ?_ ?_
  · rfl
  · clear h; intro hb h; conv => whnf
    obtain ⟨a2, hy, h2⟩ := obind.elim h; clear h; have h := h2; clear h2
    refine sumK.introF [] (sumRun_of (aqs := []) ra_nil (r28_eq hy) rfl rfl rfl rfl) ?_
    conv => whnf
    all_goals (cases h)
    all_goals exact rfl
  clear h; intro hb h; conv => whnf
  refine br.h h ?_ ?_ ?_
  · rfl
  · clear h; intro hb h; conv => whnf
    obtain ⟨a3, hy, h2⟩ := obind.elim h; clear h; have h := h2; clear h2
    refine sumK.introF [] (sumRun_of (aqs := []) ra_nil (r28_eq hy) rfl rfl rfl rfl) ?_
    conv => whnf
    all_goals (cases h)
    all_goals exact rfl
  clear h; intro hb h; conv => whnf
  obtain ⟨s1, hy, h2⟩ := obind.elim h; clear h; have h := h2; clear h2
  refine sumK.introF [] (sumRun_of (aqs := [.v (.string ⟨⟨s⟩⟩)]) (ra_cons rfl ra_nil) (r29_eq hy) rfl rfl rfl rfl) ?_
  conv => whnf
  obtain ⟨s2, hy, h2⟩ := obind.elim h; clear h; have h := h2; clear h2
  refine sumK.introF [] (sumRun_of (aqs := [.v (.string ⟨⟨s⟩⟩)]) (ra_cons rfl ra_nil) (r39_eq hy) rfl rfl rfl rfl) ?_
  conv => whnf
  refine br.h2 h ?_ ?_ ?_
  · rfl
  · clear h; intro hb h; conv => whnf
    all_goals (cases h)
    all_goals exact rfl
  clear h; intro hb h; conv => whnf
  obtain ⟨xo, hy, h2⟩ := obind.elim h; clear h; have h := h2; clear h2
  refine sumK.introF [] (sumRun_of (aqs := [.v (.string ⟨⟨s⟩⟩)]) (ra_cons rfl ra_nil) (r40_eq hy) rfl rfl rfl rfl) ?_
  conv => whnf
  obtain ⟨xo1, hy, h2⟩ := obind.elim h; clear h; have h := h2; clear h2
  refine sumK.introF [] (sumRun_of (aqs := [.v (.string ⟨⟨s⟩⟩)]) (ra_cons rfl ra_nil) (r41_eq hy) rfl rfl rfl rfl) ?_
  conv => whnf
  refine br.h2 h ?_ ?_ ?_
  · rfl
  · clear h; intro hb h; conv => whnf
    all_goals (cases h)
    all_goals exact rfl
  clear h; intro hb h; conv => whnf
  obtain ⟨xr, hy, h2⟩ := obind.elim h; clear h; have h := h2; clear h2
  refine sumK.introF [] (sumRun_of (aqs := [.v (.string ⟨⟨s⟩⟩)]) (ra_cons rfl ra_nil) (r42_eq hy) rfl rfl rfl rfl) ?_
  conv => whnf
  obtain ⟨s3, hy, h2⟩ := obind.elim h; clear h; have h := h2; clear h2
  refine sumK.introF [] (sumRun_of (aqs := [.v (.string ⟨⟨s⟩⟩)]) (ra_cons rfl ra_nil) (r39_eq hy) rfl rfl rfl rfl) ?_
  conv => whnf
  refine br.h2 h ?_ ?_ ?_
  · rfl
  · clear h; intro hb h; conv => whnf
    all_goals (cases h)
    all_goals exact rfl
  clear h; intro hb h; conv => whnf
  obtain ⟨t, hy, h2⟩ := obind.elim h; clear h; have h := h2; clear h2
  refine sumK.introF [] (sumRun_of (aqs := [.v (.int .i64 c), .v (.int .i64 froma2), .v (.int .i64 to)]) (ra_cons rfl (ra_cons rfl (ra_cons rfl ra_nil))) (r43_eq hy) rfl rfl rfl rfl) ?_
  conv => whnf
  obtain ⟨t1, hy, h2⟩ := obind.elim h; clear h; have h := h2; clear h2
  refine sumK.introF [] (sumRun_of (aqs := [.v (.int .i64 c), .v (.int .i64 froma2), .v (.int .i64 to)]) (ra_cons rfl (ra_cons rfl (ra_cons rfl ra_nil))) (r44_eq hy) rfl rfl rfl rfl) ?_
  conv => whnf
  refine br.h2 h ?_ ?_ ?_
  · rfl
  · clear h; intro hb h; conv => whnf
    all_goals (cases h)
    all_goals exact rfl
  clear h; intro hb h; conv => whnf
  obtain ⟨t2, hy, h2⟩ := obind.elim h; clear h; have h := h2; clear h2
  refine sumK.introF [] (sumRun_of (aqs := [.v (.int .i64 c), .v (.string ⟨⟨a⟩⟩), .v (.string ⟨⟨b⟩⟩)]) (ra_cons rfl (ra_cons rfl (ra_cons rfl ra_nil))) (r45_eq hy) rfl rfl rfl rfl) ?_
  conv => whnf
  obtain ⟨t3, hy, h2⟩ := obind.elim h; clear h; have h := h2; clear h2
  refine sumK.introF [] (sumRun_of (aqs := [.v (.int .i64 c), .v (.string ⟨⟨a⟩⟩), .v (.string ⟨⟨b⟩⟩)]) (ra_cons rfl (ra_cons rfl (ra_cons rfl ra_nil))) (r46_eq hy) rfl rfl rfl rfl) ?_
  conv => whnf
  refine br.h2 h ?_ ?_ ?_
  · rfl
  · clear h; intro hb h; conv => whnf
    all_goals (cases h)
    all_goals exact rfl
  clear h; intro hb h; conv => whnf
  obtain ⟨s4, hy, h2⟩ := obind.elim h; clear h; have h := h2; clear h2
  refine sumK.introF [] (sumRun_of (aqs := [.v (.string ⟨⟨s⟩⟩), .v (.int .i64 froma2), .v (.int .i64 to), .v (.int .u64 n)]) (ra_cons rfl (ra_cons rfl (ra_cons rfl (ra_cons rfl ra_nil)))) (r47_eq hy) rfl rfl rfl rfl) ?_
  conv => whnf
  obtain ⟨s5, hy, h2⟩ := obind.elim h; clear h; have h := h2; clear h2
  refine sumK.introF [] (sumRun_of (aqs := [.v (.string ⟨⟨s⟩⟩), .v (.int .i64 froma2), .v (.int .i64 to), .v (.int .u64 n)]) (ra_cons rfl (ra_cons rfl (ra_cons rfl (ra_cons rfl ra_nil)))) (r48_eq hy) rfl rfl rfl rfl) ?_
  conv => whnf
  refine br.h2 h ?_ ?_ ?_
  · rfl
  · clear h; intro hb h; conv => whnf
    all_goals (cases h)
    all_goals exact rfl
  clear h; intro hb h; conv => whnf
  obtain ⟨a4, hy, h2⟩ := obind.elim h; clear h; have h := h2; clear h2
  refine sumK.introF [] (sumRun_of (aqs := []) ra_nil (r28_eq hy) rfl rfl rfl rfl) ?_
  conv => whnf
  all_goals (cases h)
  all_goals exact rfl
theorem ok11 (law03_awake : Option Bool) (check_Sum : (List UInt8) → Option Int) (R03_Sum : (List UInt8) → Option Int) (check_Of : (List UInt8) → Option Int) (R03_Of : (List UInt8) → Option Int) (check_Right : (List UInt8) → Option Bool) (check_Turn : Int → Int → Int → Option Int) (R03_Turn : Int → Int → Int → Option Int) (check_Turned : Int → (List UInt8) → (List UInt8) → Option Int) (R03_Turned : Int → (List UInt8) → (List UInt8) → Option Int) (check_Set : (List UInt8) → Int → Int → Int → Option (List UInt8)) (R03_Set : (List UInt8) → Int → Int → Int → Option (List UInt8)) (hS : SumsOK Try.prog (aget (sums11 law03_awake check_Sum R03_Sum check_Of R03_Of check_Right check_Turn R03_Turn check_Turned R03_Turned check_Set R03_Set))) : SumOK Try.prog 11 (s11 (law03_CheckTellsF law03_awake check_Sum R03_Sum check_Of R03_Of check_Right check_Turn R03_Turn check_Turned R03_Turned check_Set R03_Set)) := by
  refine SumOK.of_leads tab_ok (fun ar r ha hr => ?_) ⟨Try.f11, rfl, by decide, rfl⟩
  simp only [s11] at ha hr
  unfold r11 at hr
  split at hr <;> try (cases hr; done)
  split at hr <;> cases hr
  rename_i x h
  refine ⟨_, rfl, (leads11 law03_awake check_Sum R03_Sum check_Of R03_Of check_Right check_Turn R03_Turn check_Turned R03_Turned check_Set R03_Set hS _ _ _ _ _ _ _ x h).mono fun v H t hp => ?_⟩
  cases hp
  exact Res.val rfl trivial
def law03_CheckTells : (List UInt8) → Int → Int → Int → (List UInt8) → (List UInt8) → Int → Option Bool := law03_CheckTellsF law03_awake check_Sum R03_Sum check_Of R03_Of check_Right check_Turn R03_Turn check_Turned R03_Turned check_Set R03_Set
theorem lift11 : SumOK Try.prog 11 (s11 law03_CheckTells) := ok11 law03_awake check_Sum R03_Sum check_Of R03_Of check_Right check_Turn R03_Turn check_Turned R03_Turned check_Set R03_Set (SumsOK.of_tab ⟨lift28, lift29, lift39, lift40, lift41, lift42, lift43, lift44, lift45, lift46, lift47, lift48, trivial⟩)
end Go.Vm.Code

/- CheckTells, in plain words. -/
namespace Go.Vm.Code
open Go Go.Vm
theorem checkTells (s : List UInt8) (c p k : Int) (a b : List UInt8) (n : Int) (hn : 0 ≤ n ∧ n < 2 ^ 64) : law03_CheckTells s c p k a b n = some true := by
  unfold law03_CheckTells law03_CheckTellsF
  rw [awake03]
  by_cases h1 : (s.length : Int) > 200
  · rw [cond_p h1]; rfl
  rw [cond_n h1]
  by_cases h2 : (a.length : Int) > 60
  · rw [cond_p h2]; rfl
  rw [cond_n h2]
  by_cases h3 : (b.length : Int) > 60
  · rw [cond_p h3]; rfl
  rw [cond_n h3]
  rw [sum_eq s (by omega), R03_Sum_eq (by omega), Of_eq (by omega), R03_Of_eq (by omega), Right_eq (by omega), Turn_eq, R03_Turn_eq, Turned_eq (by omega) (by omega), R03_Turned_eq (by omega) (by omega), Set_eq (by omega) hn.1, R03_Set_eq (by omega) hn.1 hn.2]
  simp only [Option.bind_some, beq_self_eq_true, cond_true]
end Go.Vm.Code
