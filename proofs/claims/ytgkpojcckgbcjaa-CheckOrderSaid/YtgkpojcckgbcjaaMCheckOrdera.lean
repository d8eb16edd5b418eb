import Derived.Test.YtgkpojcckgbcjaaVmLift
import Derived.Test.YtgkpojcckgbcjaaCodeA
/- Plain lemmas on the lifted functions' words. -/
namespace Go.Vm
open Go

/-! numbers of the machine -/
theorem wI64 {n : Int} (h1 : -9223372036854775808 ≤ n) (h2 : n < 9223372036854775808) : wI .i64 n = n := by
  show IntKind.wrap .i64 n = n; rw [IntKind.wrap_i64]; omega
theorem wU64 {n : Int} (h1 : 0 ≤ n) (h2 : n < 18446744073709551616) : wI .u64 n = n := by
  show IntKind.wrap .u64 n = n
  simp only [IntKind.wrap, IntKind.bits, IntKind.signed]; simp; omega
theorem wU32 {n : Int} (h1 : 0 ≤ n) (h2 : n < 4294967296) : wI .u32 n = n := by
  show IntKind.wrap .u32 n = n
  simp only [IntKind.wrap, IntKind.bits, IntKind.signed]; simp; omega
theorem wU16 {n : Int} (h1 : 0 ≤ n) (h2 : n < 65536) : wI .u16 n = n := by
  show IntKind.wrap .u16 n = n
  simp only [IntKind.wrap, IntKind.bits, IntKind.signed]; simp; omega
theorem wU8 {n : Int} (h1 : 0 ≤ n) (h2 : n < 256) : wI .u8 n = n := by
  show IntKind.wrap .u8 n = n
  simp only [IntKind.wrap, IntKind.bits, IntKind.signed]; simp; omega
theorem wU64m (n : Int) : wI .u64 n = n % 18446744073709551616 := by
  show IntKind.wrap .u64 n = _
  simp only [IntKind.wrap, IntKind.bits, IntKind.signed]; simp
theorem wU32m (n : Int) : wI .u32 n = n % 4294967296 := by
  show IntKind.wrap .u32 n = _
  simp only [IntKind.wrap, IntKind.bits, IntKind.signed]; simp
theorem wU16m (n : Int) : wI .u16 n = n % 65536 := by
  show IntKind.wrap .u16 n = _
  simp only [IntKind.wrap, IntKind.bits, IntKind.signed]; simp
theorem wU8m (n : Int) : wI .u8 n = n % 256 := by
  show IntKind.wrap .u8 n = _
  simp only [IntKind.wrap, IntKind.bits, IntKind.signed]; simp

theorem bv64 {n : Nat} (h : n < 18446744073709551616) : (BitVec.ofInt 64 (n : Int)).toNat = n := by
  rw [BitVec.toNat_ofInt]; omega
theorem andI64 {a b : Nat} (ha : a < 9223372036854775808) (hb : b < 9223372036854775808) : andI .i64 (a : Int) (b : Int) = ((a &&& b : Nat) : Int) := by
  have h : a &&& b ≤ a := Nat.and_le_left
  show IntKind.wrap .i64 _ = _
  rw [show IntKind.bits .i64 = 64 from rfl, BitVec.toNat_and, bv64 (by omega), bv64 (by omega)]
  exact wI64 (by omega) (by omega)
theorem iorI64 {a b : Nat} (ha : a < 9223372036854775808) (hb : b < 9223372036854775808) : iorI .i64 (a : Int) (b : Int) = ((a ||| b : Nat) : Int) := by
  have h : a ||| b < 2 ^ 63 := Nat.or_lt_two_pow (by omega) (by omega)
  show IntKind.wrap .i64 _ = _
  rw [show IntKind.bits .i64 = 64 from rfl, BitVec.toNat_or, bv64 (by omega), bv64 (by omega)]
  exact wI64 (by omega) (by omega)
theorem andU64 {a b : Nat} (ha : a < 18446744073709551616) (hb : b < 18446744073709551616) : andI .u64 (a : Int) (b : Int) = ((a &&& b : Nat) : Int) := by
  have h : a &&& b ≤ a := Nat.and_le_left
  show IntKind.wrap .u64 _ = _
  rw [show IntKind.bits .u64 = 64 from rfl, BitVec.toNat_and, bv64 (by omega), bv64 (by omega)]
  exact wU64 (by omega) (by omega)
theorem iorU64 {a b : Nat} (ha : a < 18446744073709551616) (hb : b < 18446744073709551616) : iorI .u64 (a : Int) (b : Int) = ((a ||| b : Nat) : Int) := by
  have h : a ||| b < 2 ^ 64 := Nat.or_lt_two_pow (by omega) (by omega)
  show IntKind.wrap .u64 _ = _
  rw [show IntKind.bits .u64 = 64 from rfl, BitVec.toNat_or, bv64 (by omega), bv64 (by omega)]
  exact wU64 (by omega) (by omega)
theorem ixorU64 {a b : Nat} (ha : a < 18446744073709551616) (hb : b < 18446744073709551616) : ixorI .u64 (a : Int) (b : Int) = ((a ^^^ b : Nat) : Int) := by
  have h : a ^^^ b < 2 ^ 64 := Nat.xor_lt_two_pow (by omega) (by omega)
  show IntKind.wrap .u64 _ = _
  rw [show IntKind.bits .u64 = 64 from rfl, BitVec.toNat_xor, bv64 (by omega), bv64 (by omega)]
  exact wU64 (by omega) (by omega)
theorem and_mask (a k : Nat) : a &&& (2 ^ k - 1) = a % 2 ^ k := Nat.and_two_pow_sub_one_eq_mod a k
theorem or_low {a b k : Nat} (hb : b < 2 ^ k) : (a * 2 ^ k) ||| b = a * 2 ^ k + b := by
  rw [Nat.mul_comm]; exact (Nat.two_pow_add_eq_or_of_lt hb a).symm
/-- a number's lowest bits -/
theorem andI64_mask (k : Nat) {a m : Int} (hm : m = 2 ^ k - 1) (hk : k ≤ 62) (h0 : 0 ≤ a) (h1 : a < 9223372036854775808) : andI .i64 a m = a % 2 ^ k := by
  obtain ⟨n, rfl⟩ := Int.eq_ofNat_of_zero_le h0
  have hp : 2 ^ k ≤ 2 ^ 62 := Nat.pow_le_pow_right (by decide) hk
  have hp1 : 1 ≤ 2 ^ k := Nat.one_le_two_pow
  have : m = ((2 ^ k - 1 : Nat) : Int) := by rw [hm]; push_cast [hp1]; rfl
  rw [this, andI64 (by omega) (by omega), and_mask]; push_cast; rfl
theorem andU64_mask (k : Nat) {a m : Int} (hm : m = 2 ^ k - 1) (hk : k ≤ 64) (h0 : 0 ≤ a) (h1 : a < 18446744073709551616) : andI .u64 a m = a % 2 ^ k := by
  obtain ⟨n, rfl⟩ := Int.eq_ofNat_of_zero_le h0
  have hp : 2 ^ k ≤ 2 ^ 64 := Nat.pow_le_pow_right (by decide) hk
  have hp1 : 1 ≤ 2 ^ k := Nat.one_le_two_pow
  have : m = ((2 ^ k - 1 : Nat) : Int) := by rw [hm]; push_cast [hp1]; rfl
  rw [this, andU64 (by omega) (by omega), and_mask]; push_cast; rfl
/-- two numbers whose bits lie apart -/
theorem iorI64_low (k : Nat) {a b : Int} (h0 : 0 ≤ a) (h1 : a * 2 ^ k < 9223372036854775808) (hb0 : 0 ≤ b) (hb : b < 2 ^ k) (hb1 : b < 9223372036854775808) : iorI .i64 (a * 2 ^ k) b = a * 2 ^ k + b := by
  obtain ⟨n, rfl⟩ := Int.eq_ofNat_of_zero_le h0
  obtain ⟨m, rfl⟩ := Int.eq_ofNat_of_zero_le hb0
  have e : ((n : Int) * 2 ^ k) = ((n * 2 ^ k : Nat) : Int) := by push_cast; rfl
  rw [e] at h1 ⊢
  rw [iorI64 (by omega) (by omega), or_low (by exact_mod_cast hb)]; push_cast; rfl
theorem iorU64_low (k : Nat) {a b : Int} (h0 : 0 ≤ a) (h1 : a * 2 ^ k < 18446744073709551616) (hb0 : 0 ≤ b) (hb : b < 2 ^ k) (hb1 : b < 18446744073709551616) : iorI .u64 (a * 2 ^ k) b = a * 2 ^ k + b := by
  obtain ⟨n, rfl⟩ := Int.eq_ofNat_of_zero_le h0
  obtain ⟨m, rfl⟩ := Int.eq_ofNat_of_zero_le hb0
  have e : ((n : Int) * 2 ^ k) = ((n * 2 ^ k : Nat) : Int) := by push_cast; rfl
  rw [e] at h1 ⊢
  rw [iorU64 (by omega) (by omega), or_low (by exact_mod_cast hb)]; push_cast; rfl
theorem fdivP (a : Int) (k : Nat) : a.fdiv (2 ^ k) = a / 2 ^ k := Int.fdiv_eq_ediv_of_nonneg a (Int.le_of_lt (Int.pow_pos (by decide)))

/-! steps -/
theorem oreq_p {α : Type} {p : Prop} [Decidable p] {x : Option α} (h : p) : oreq (decide p) x = x := oreq.mk (decide_eq_true h)
theorem cond_p {α : Type} {p : Prop} [Decidable p] {x y : α} (h : p) : cond (decide p) x y = x := by rw [decide_eq_true h, cond_true]
theorem cond_n {α : Type} {p : Prop} [Decidable p] {x y : α} (h : ¬ p) : cond (decide p) x y = y := by rw [decide_eq_false h, cond_false]
theorem cond_dec {α : Type} {p : Prop} [Decidable p] {x y : α} : cond (decide p) x y = if p then x else y := by
  by_cases h : p <;> simp [h]

/-! loops -/
theorem iter_eq {σ ρ : Type} {step : σ → Option (Sum σ ρ)} (F : σ → ρ) (P : σ → Prop) (μ : σ → Nat)
    (h : ∀ s, P s → step s = some (.inr (F s)) ∨ ∃ s', step s = some (.inl s') ∧ P s' ∧ μ s' < μ s ∧ F s' = F s) : ∀ n s, P s → μ s < n → iter step n s = some (F s)
  | 0, s, hp, hn => by omega
  | n + 1, s, hp, hn => by
    rw [iter]
    rcases h s hp with e | ⟨s', e, hp', hm, hf⟩
    · rw [e]
    · rw [e]; exact hf ▸ iter_eq F P μ h n s' hp' (by omega)
theorem FUEL_eq : FUEL = 18446744073709551616 := rfl
end Go.Vm

namespace Go.Vm.Code
open Go Go.Vm Go.Proofs
set_option maxRecDepth 20000
set_option maxHeartbeats 4000000
set_option linter.unusedVariables false

@[ext] structure api_Key where
  A : Int
  B : Int
  deriving DecidableEq
@[ext] structure Arr4_Int where
  e0 : Int
  e1 : Int
  e2 : Int
  e3 : Int
  deriving DecidableEq
@[ext] structure sip_Hasher where
  made : Bool
  s : Arr4_Int
  last : Int
  count : Int
  deriving DecidableEq
@[ext] structure api_Addr where
  V6 : Bool
  Hi : Int
  Lo : Int
  deriving DecidableEq
@[ext] structure ipsix_Head where
  Class : Int
  Label : Int
  Next : Int
  Hop : Int
  Src : api_Addr
  Dst : api_Addr
  deriving DecidableEq
@[ext] structure octet_Reader where
  s : List UInt8
  made : Bool
  bad : Bool
  deriving DecidableEq
end Go.Vm.Code

namespace Go.Vm.Code
open Go Go.Vm Go.Proofs
set_option maxRecDepth 20000
set_option maxHeartbeats 4000000
set_option linter.unusedVariables false

/-! cloakroom/check.fold -/
def check_fold_s1 (n1 : Int) : Option (Sum Int Int) :=
  cond (decide (n1 > 65535))
    (
    let t := wI .i64 ((andI .i64 n1 65535) + (n1.fdiv (2 ^ 16)))
    some (.inl t))
    (
    some (.inr (n1)))
def check_foldF (n : Int) : Option Int :=
  iter (fun st => check_fold_s1 st) FUEL n
def post63 (x : Int) (v : Value) (H : Hp) : Prop := v = .int .i64 x
def r63 (g : Int → Option Int) : List SArg → Option SRes
  | [.v (.int .i64 a0_1)] => match g a0_1 with | some x => some ⟨.int .i64 x, [], []⟩ | none => none
  | _ => none
def s63 (g : Int → Option Int) : Summ := ⟨[.v], r63 g⟩
theorem r63_eq {g : Int → Option Int} {a0_1 : Int} {x : Int} (hx : g a0_1 = some x) : (s63 g).run [.v (.int .i64 a0_1)] = some ⟨.int .i64 x, [], []⟩ := by
  show r63 g [.v (.int .i64 a0_1)] = _
  simp only [r63, hx]
abbrev sums63 : List (Nat × Summ) := []
def head63_1 (n1 : Int) : VM :=
  ⟨⟨63, 11, [(0, .int .i64 n1)], [.code k63_6, .inLoop k63_6, .inBlock 0, .code k63_10], [], false, none⟩, [], [], 0⟩
theorem loop63_1 (hS : SumsOK Try.prog (aget (sums63))) (res : Int) : ∀ fuel (st : Int) (o : Int), iter (fun st => check_fold_s1 st) fuel st = some o → (o = res) →
    Leads Try.prog 63 0 (head63_1 st) (fun v H _ => post63 res v H) := by
  intro fuel st o h hc
  refine iter_leads (head := fun st => head63_1 st) (C := fun o => (o = res)) ?_ fuel st o h hc
  clear h hc o st fuel
  intro n1 o h hc
  replace h : check_fold_s1 n1 = some o := h
  show Leads Try.prog 63 0 (head63_1 n1) (fun v H _ => post63 res v H)
  unfold check_fold_s1 at h
  refine ev_ok tab_ok hS true 3000 ?_
  conv => whnf
  refine br.h2 h ?_ ?_ ?_
  · rfl
  · clear h; intro hb h; conv => whnf
    all_goals (cases h; cases hc)
    all_goals exact rfl
  clear h; intro hb h; conv => whnf
  let t : Int := wI .i64 ((andI .i64 n1 65535) + (n1.fdiv (2 ^ 16)))
  cases h; simp only [Sum.elim_inl, Sum.elim_inr, head63_1] at hc
  refine Leads.re hc [] rfl ?_ ?_ <;> (repeat' first | exact trivial | refine ⟨⟨_, rfl, rfl⟩, ?_⟩ | refine ⟨⟨_, _, rfl, rfl, .rowF (vI_flat _ _) id⟩, ?_⟩ | refine ⟨⟨_, _, rfl, rfl, .rowF (vS_flat _) id⟩, ?_⟩ | refine ⟨⟨_, _, rfl, rfl, .rowF (vB_flat _) id⟩, ?_⟩ | refine ⟨⟨_, _, rfl, rfl, .cells rfl⟩, ?_⟩ | refine ⟨⟨_, _, rfl, rfl, .row rfl id⟩, ?_⟩ | refine ⟨⟨_, _, rfl, rfl, .cr rfl⟩, ?_⟩ | refine ⟨⟨_, _, rfl, rfl, .rc rfl⟩, ?_⟩ | refine ⟨⟨_, _, rfl, rfl, .marks⟩, ?_⟩ | refine ⟨⟨_, _, rfl, rfl, .loop rfl rfl rfl rfl (by repeat' first | exact trivial | refine ⟨rfl, ?_⟩) rfl rfl rfl rfl⟩, ?_⟩)
theorem leads63 (hS : SumsOK Try.prog (aget (sums63))) (n : Int) (res : Int) (h : check_foldF n = some res) :
    Leads Try.prog 63 0 ⟨⟨63, 11, [(0, .int .i64 n)], [.code k63_12], [], false, none⟩, [], [], 0⟩ (fun v H _ => post63 res v H) := by
  unfold check_foldF at h
  refine ev_ok tab_ok hS true 3000 ?_
  conv => whnf
  have hl := loop63_1 hS res _ _ _ h rfl; simp only [head63_1] at hl
  refine Leads.re hl [] rfl ?_ ?_ <;> (repeat' first | exact trivial | refine ⟨⟨_, rfl, rfl⟩, ?_⟩ | refine ⟨⟨_, _, rfl, rfl, .rowF (vI_flat _ _) id⟩, ?_⟩ | refine ⟨⟨_, _, rfl, rfl, .rowF (vS_flat _) id⟩, ?_⟩ | refine ⟨⟨_, _, rfl, rfl, .rowF (vB_flat _) id⟩, ?_⟩ | refine ⟨⟨_, _, rfl, rfl, .cells rfl⟩, ?_⟩ | refine ⟨⟨_, _, rfl, rfl, .row rfl id⟩, ?_⟩ | refine ⟨⟨_, _, rfl, rfl, .cr rfl⟩, ?_⟩ | refine ⟨⟨_, _, rfl, rfl, .rc rfl⟩, ?_⟩ | refine ⟨⟨_, _, rfl, rfl, .marks⟩, ?_⟩ | refine ⟨⟨_, _, rfl, rfl, .loop rfl rfl rfl rfl (by repeat' first | exact trivial | refine ⟨rfl, ?_⟩) rfl rfl rfl rfl⟩, ?_⟩)
theorem ok63 (hS : SumsOK Try.prog (aget (sums63))) : SumOK Try.prog 63 (s63 (check_foldF)) := by
  refine SumOK.of_leads tab_ok (fun ar r ha hr => ?_) ⟨Try.f63, rfl, by decide, rfl⟩
  simp only [s63] at ha hr
  unfold r63 at hr
  split at hr <;> try (cases hr; done)
  split at hr <;> cases hr
  rename_i x h
  refine ⟨_, rfl, (leads63 hS _ x h).mono fun v H t hp => ?_⟩
  cases hp
  exact Res.val rfl trivial
def check_fold : Int → Option Int := check_foldF
theorem lift63 : SumOK Try.prog 63 (s63 check_fold) := ok63 (SumsOK.of_tab trivial)
end Go.Vm.Code

namespace Go.Vm.Code
open Go Go.Vm Go.Proofs
set_option maxRecDepth 20000
set_option maxHeartbeats 4000000
set_option linter.unusedVariables false

/-! cloakroom/check.Sum -/
def check_Sum_s1 (check_fold : Int → Option Int) (s : List UInt8) (xat : Int) (n : Int) : Option (Sum (Int × Int) Int) :=
  cond (decide (xat < (s.length : Int)))
    (
    oreq (decide (0 ≤ xat)) <|
    (s[xat.toNat]?).bind fun (b : UInt8) =>
    let t := wI .i64 ((wI .i64 (b.toNat : Int)) * 2 ^ 8)
    let t1 := decide ((wI .i64 (xat + 1)) < (s.length : Int))
    cond (t1)
      (
      oreq (decide (0 ≤ (wI .i64 (xat + 1)))) <|
      (s[(wI .i64 (xat + 1)).toNat]?).bind fun (b1 : UInt8) =>
      let t2 := wI .i64 (n + (iorI .i64 t (wI .i64 (b1.toNat : Int))))
      (check_fold t2).bind fun f =>
      some (.inl (wI .i64 (xat + 2), f)))
      (
      (check_fold (wI .i64 (n + t))).bind fun f1 =>
      some (.inl (wI .i64 (xat + 2), f1))))
    (
    some (.inr (n)))
def check_SumF (check_fold : Int → Option Int) (s : List UInt8) : Option Int :=
  iter (fun st => check_Sum_s1 check_fold s st.1 st.2) FUEL (0, 0)
def post29 (x : Int) (v : Value) (H : Hp) : Prop := v = .int .i64 x
def r29 (g : (List UInt8) → Option Int) : List SArg → Option SRes
  | [.v (.string ⟨⟨a0_1⟩⟩)] => match g a0_1 with | some x => some ⟨.int .i64 x, [], []⟩ | none => none
  | _ => none
def s29 (g : (List UInt8) → Option Int) : Summ := ⟨[.v], r29 g⟩
theorem r29_eq {g : (List UInt8) → Option Int} {a0_1 : List UInt8} {x : Int} (hx : g a0_1 = some x) : (s29 g).run [.v (.string ⟨⟨a0_1⟩⟩)] = some ⟨.int .i64 x, [], []⟩ := by
  show r29 g [.v (.string ⟨⟨a0_1⟩⟩)] = _
  simp only [r29, hx]
abbrev sums29 (check_fold : Int → Option Int) : List (Nat × Summ) := [(63, s63 check_fold)]
def head29_1 (s : List UInt8) (xat : Int) (n : Int) : VM :=
  ⟨⟨92, 32, [(0, .func (.yield 3) #[] #[]), (1, .pointer (some ⟨1, 0, none⟩)), (3, .int .i64 xat)], [.code k92_17, .inLoop k92_17, .inBlock 0], [], false, none⟩, [⟨29, 13, [(3, .pointer (some ⟨0, 0, none⟩))], [.inRangeFunc 3, .inBlock 0, .code k29_10], [2], false, none⟩], [(0, .cells [.int .i64 n]), (1, .cells [.string ⟨⟨s⟩⟩]), (2, .marks), (3, .loop ⟨.ready, none, 29, 13, [(3, .pointer (some ⟨0, 0, none⟩))], [7], k29_3, k29_5, 2⟩)], 4⟩
theorem loop29_1 (check_fold : Int → Option Int) (hS : SumsOK Try.prog (aget (sums29 check_fold))) (s : List UInt8) (res : Int) : ∀ fuel (st : Int × Int) (o : Int), iter (fun st => check_Sum_s1 check_fold s st.1 st.2) fuel st = some o → (o = res) →
    Leads Try.prog 29 0 (head29_1 s st.1 st.2) (fun v H _ => post29 res v H) := by
  intro fuel st o h hc
  refine iter_leads (head := fun st => head29_1 s st.1 st.2) (C := fun o => (o = res)) ?_ fuel st o h hc
  clear h hc o st fuel
  intro st o h hc
  obtain ⟨xat, n⟩ := st
  replace h : check_Sum_s1 check_fold s xat n = some o := h
  show Leads Try.prog 29 0 (head29_1 s xat n) (fun v H _ => post29 res v H)
  unfold check_Sum_s1 at h
  refine ev_ok tab_ok hS true 3000 ?_
  conv => whnf
  refine br.h2 h ?_ ?_ ?_
  · rfl
  · clear h; intro hb h; conv => whnf
    all_goals (cases h; cases hc)
    all_goals exact rfl
  clear h; intro hb h; conv => whnf
  replace h := oreq.elim h; have hb := h.1; replace h := h.2
  first | (refine req.intro hb ?_; conv => whnf) | skip
  obtain ⟨b, hy, h2⟩ := obind.elim h; clear h; have h := h2; clear h2
  refine rdS.intro hy ?_
  conv => whnf
  let t : Int := wI .i64 ((wI .i64 (b.toNat : Int)) * 2 ^ 8)
  let t1 : Bool := decide ((wI .i64 (xat + 1)) < (s.length : Int))
  refine br.h2 h ?_ ?_ ?_
  · rfl
  · clear h; intro hb h; conv => whnf
    obtain ⟨f1, hy, h2⟩ := obind.elim h; clear h; have h := h2; clear h2
    refine sumK.introF [] (sumRun_of (aqs := [.v (.int .i64 (wI .i64 (n + t)))]) (ra_cons rfl ra_nil) (r63_eq hy) rfl rfl rfl rfl) ?_
    conv => whnf
    cases h; simp only [Sum.elim_inl, Sum.elim_inr, head29_1] at hc
    refine Leads.re hc [(0, 0), (1, 1), (2, 2), (3, 3)] rfl ?_ ?_ (hu := by repeat' first | exact trivial | refine ⟨⟨rfl, rfl, rfl, rfl, rfl, ?_, rfl, rfl⟩, ?_⟩ | refine ⟨⟨_, rfl, rfl⟩, ?_⟩) <;> (repeat' first | exact trivial | refine ⟨⟨_, rfl, rfl⟩, ?_⟩ | refine ⟨⟨_, _, rfl, rfl, .rowF (vI_flat _ _) id⟩, ?_⟩ | refine ⟨⟨_, _, rfl, rfl, .rowF (vS_flat _) id⟩, ?_⟩ | refine ⟨⟨_, _, rfl, rfl, .rowF (vB_flat _) id⟩, ?_⟩ | refine ⟨⟨_, _, rfl, rfl, .cells rfl⟩, ?_⟩ | refine ⟨⟨_, _, rfl, rfl, .row rfl id⟩, ?_⟩ | refine ⟨⟨_, _, rfl, rfl, .cr rfl⟩, ?_⟩ | refine ⟨⟨_, _, rfl, rfl, .rc rfl⟩, ?_⟩ | refine ⟨⟨_, _, rfl, rfl, .marks⟩, ?_⟩ | refine ⟨⟨_, _, rfl, rfl, .loop rfl rfl rfl rfl (by repeat' first | exact trivial | refine ⟨rfl, ?_⟩) rfl rfl rfl rfl⟩, ?_⟩)
  clear h; intro hb h; conv => whnf
  replace h := oreq.elim h; have hb := h.1; replace h := h.2
  first | (refine req.intro hb ?_; conv => whnf) | skip
  obtain ⟨b1, hy, h2⟩ := obind.elim h; clear h; have h := h2; clear h2
  refine rdS.intro hy ?_
  conv => whnf
  let t2 : Int := wI .i64 (n + (iorI .i64 t (wI .i64 (b1.toNat : Int))))
  obtain ⟨f, hy, h2⟩ := obind.elim h; clear h; have h := h2; clear h2
  refine sumK.introF [] (sumRun_of (aqs := [.v (.int .i64 t2)]) (ra_cons rfl ra_nil) (r63_eq hy) rfl rfl rfl rfl) ?_
  conv => whnf
  cases h; simp only [Sum.elim_inl, Sum.elim_inr, head29_1] at hc
  refine Leads.re hc [(0, 0), (1, 1), (2, 2), (3, 3)] rfl ?_ ?_ (hu := by repeat' first | exact trivial | refine ⟨⟨rfl, rfl, rfl, rfl, rfl, ?_, rfl, rfl⟩, ?_⟩ | refine ⟨⟨_, rfl, rfl⟩, ?_⟩) <;> (repeat' first | exact trivial | refine ⟨⟨_, rfl, rfl⟩, ?_⟩ | refine ⟨⟨_, _, rfl, rfl, .rowF (vI_flat _ _) id⟩, ?_⟩ | refine ⟨⟨_, _, rfl, rfl, .rowF (vS_flat _) id⟩, ?_⟩ | refine ⟨⟨_, _, rfl, rfl, .rowF (vB_flat _) id⟩, ?_⟩ | refine ⟨⟨_, _, rfl, rfl, .cells rfl⟩, ?_⟩ | refine ⟨⟨_, _, rfl, rfl, .row rfl id⟩, ?_⟩ | refine ⟨⟨_, _, rfl, rfl, .cr rfl⟩, ?_⟩ | refine ⟨⟨_, _, rfl, rfl, .rc rfl⟩, ?_⟩ | refine ⟨⟨_, _, rfl, rfl, .marks⟩, ?_⟩ | refine ⟨⟨_, _, rfl, rfl, .loop rfl rfl rfl rfl (by repeat' first | exact trivial | refine ⟨rfl, ?_⟩) rfl rfl rfl rfl⟩, ?_⟩)
theorem leads29 (check_fold : Int → Option Int) (hS : SumsOK Try.prog (aget (sums29 check_fold))) (s : List UInt8) (res : Int) (h : check_SumF check_fold s = some res) :
    Leads Try.prog 29 0 ⟨⟨29, 13, [(0, .string ⟨⟨s⟩⟩)], [.code k29_13], [], false, none⟩, [], [], 0⟩ (fun v H _ => post29 res v H) := by
  unfold check_SumF at h
  refine ev_ok tab_ok hS true 3000 ?_
  conv => whnf
  have hl := loop29_1 check_fold hS _ res _ _ _ h rfl; simp only [head29_1] at hl
  refine Leads.re hl [(0, 0), (1, 1), (2, 2), (3, 3)] rfl ?_ ?_ (hu := by repeat' first | exact trivial | refine ⟨⟨rfl, rfl, rfl, rfl, rfl, ?_, rfl, rfl⟩, ?_⟩ | refine ⟨⟨_, rfl, rfl⟩, ?_⟩) <;> (repeat' first | exact trivial | refine ⟨⟨_, rfl, rfl⟩, ?_⟩ | refine ⟨⟨_, _, rfl, rfl, .rowF (vI_flat _ _) id⟩, ?_⟩ | refine ⟨⟨_, _, rfl, rfl, .rowF (vS_flat _) id⟩, ?_⟩ | refine ⟨⟨_, _, rfl, rfl, .rowF (vB_flat _) id⟩, ?_⟩ | refine ⟨⟨_, _, rfl, rfl, .cells rfl⟩, ?_⟩ | refine ⟨⟨_, _, rfl, rfl, .row rfl id⟩, ?_⟩ | refine ⟨⟨_, _, rfl, rfl, .cr rfl⟩, ?_⟩ | refine ⟨⟨_, _, rfl, rfl, .rc rfl⟩, ?_⟩ | refine ⟨⟨_, _, rfl, rfl, .marks⟩, ?_⟩ | refine ⟨⟨_, _, rfl, rfl, .loop rfl rfl rfl rfl (by repeat' first | exact trivial | refine ⟨rfl, ?_⟩) rfl rfl rfl rfl⟩, ?_⟩)
theorem ok29 (check_fold : Int → Option Int) (hS : SumsOK Try.prog (aget (sums29 check_fold))) : SumOK Try.prog 29 (s29 (check_SumF check_fold)) := by
  refine SumOK.of_leads tab_ok (fun ar r ha hr => ?_) ⟨Try.f29, rfl, by decide, rfl⟩
  simp only [s29] at ha hr
  unfold r29 at hr
  split at hr <;> try (cases hr; done)
  split at hr <;> cases hr
  rename_i x h
  refine ⟨_, rfl, (leads29 check_fold hS _ x h).mono fun v H t hp => ?_⟩
  cases hp
  exact Res.val rfl trivial
def check_Sum : (List UInt8) → Option Int := check_SumF check_fold
theorem lift29 : SumOK Try.prog 29 (s29 check_Sum) := ok29 check_fold (SumsOK.of_tab ⟨lift63, trivial⟩)
end Go.Vm.Code

/- The sums of chapter 3, in plain words. -/

namespace Go.Vm.Code
open Go Go.Vm

/-- words of two bytes, added -/
def wsum : List UInt8 → Nat
  | [] => 0
  | [b] => b.toNat * 256
  | b :: c :: l => b.toNat * 256 + c.toNat + wsum l
/-- a sum brought to 16 bits -/
def norm (n : Nat) : Nat := if n = 0 then 0 else (n - 1) % 65535 + 1
theorem norm_eq {n r : Nat} (h1 : r ≤ 65535) (h2 : r % 65535 = n % 65535) (h3 : r = 0 ↔ n = 0) : norm n = r := by unfold norm; split <;> omega
theorem norm_le (n : Nat) : norm n ≤ 65535 := by unfold norm; split <;> omega
theorem norm_mod (n : Nat) : norm n % 65535 = n % 65535 := by unfold norm; split <;> omega
theorem norm_zero (n : Nat) : norm n = 0 ↔ n = 0 := by unfold norm; split <;> omega
theorem norm_same {n : Nat} (h : n ≤ 65535) : norm n = n := norm_eq h rfl Iff.rfl
theorem norm_add (a b : Nat) : norm (norm a + b) = norm (a + b) :=
  (norm_eq (norm_le _) (by have h1 := norm_mod a; have h2 := norm_mod (norm a + b); omega) (by have h1 := norm_zero a; have h2 := norm_zero (norm a + b); omega)).symm

theorem fold_eq {n : Int} (h0 : 0 ≤ n) (h1 : n < 2 ^ 62) : check_fold n = some ((norm n.toNat : Nat) : Int) := by
  unfold check_fold check_foldF
  refine iter_eq (fun n => ((norm n.toNat : Nat) : Int)) (fun n => 0 ≤ n ∧ n < 2 ^ 62) (fun n => n.toNat) ?_ FUEL _ ⟨h0, h1⟩ (by rw [FUEL_eq]; omega)
  intro s ⟨a, b⟩
  unfold check_fold_s1
  by_cases hs : s > 65535
  · refine .inr ⟨s % 65536 + s / 65536, ?_, ⟨by omega, by omega⟩, by omega, ?_⟩
    · rw [cond_p hs, andI64_mask (m := 65535) 16 (by decide) (by decide) a (by omega), fdivP, wI64 (by omega) (by omega)]; rfl
    · have : norm (s % 65536 + s / 65536).toNat = norm s.toNat :=
        (norm_eq (norm_le _) (by have := norm_mod (s % 65536 + s / 65536).toNat; omega) (by have := norm_zero (s % 65536 + s / 65536).toNat; omega)).symm
      rw [this]
  · refine .inl ?_
    rw [cond_n hs]
    have := norm_same (n := s.toNat) (by omega)
    simp only [this]
    rw [Int.toNat_of_nonneg a]

theorem wsum_two {s : List UInt8} {i : Nat} (h : i + 1 < s.length) : wsum (s.drop i) = s[i].toNat * 256 + s[i + 1].toNat + wsum (s.drop (i + 2)) := by
  rw [List.drop_eq_getElem_cons (by omega : i < s.length), List.drop_eq_getElem_cons h]; rfl
theorem wsum_one {s : List UInt8} {i : Nat} (h : i + 1 = s.length) : wsum (s.drop i) = s[i].toNat * 256 := by
  rw [List.drop_eq_getElem_cons (by omega : i < s.length), List.drop_eq_nil_of_le (by omega)]; rfl
theorem wsum_none {s : List UInt8} {i : Nat} (h : s.length ≤ i) : wsum (s.drop i) = 0 := by
  rw [List.drop_eq_nil_of_le h]; rfl

theorem sum_eq (s : List UInt8) (h : s.length < 2 ^ 61) : check_Sum s = some ((norm (wsum s) : Nat) : Int) := by
  unfold check_Sum check_SumF
  have key := iter_eq (step := fun (st : Int × Int) => check_Sum_s1 check_fold s st.1 st.2) (fun (st : Int × Int) => ((norm (st.2.toNat + wsum (s.drop st.1.toNat)) : Nat) : Int)) (fun (st : Int × Int) => 0 ≤ st.1 ∧ st.1 ≤ s.length + 1 ∧ 0 ≤ st.2 ∧ st.2 ≤ 65535) (fun (st : Int × Int) => (s.length + 2 - st.1).toNat) ?_ FUEL (0, 0) ⟨by simp, by simp; omega, by simp, by simp⟩ (by rw [FUEL_eq]; simp only; omega)
  · rw [key]; simp
  rintro ⟨p, n⟩ ⟨h1, h2, h3, h4⟩
  simp only at h1 h2 h3 h4 ⊢
  obtain ⟨i, rfl⟩ := Int.eq_ofNat_of_zero_le h1
  obtain ⟨m, rfl⟩ := Int.eq_ofNat_of_zero_le h3
  unfold check_Sum_s1
  by_cases hp : i < s.length
  · by_cases hq : i + 1 < s.length
    · have b1 := s[i].toNat_lt
      have b2 := s[i + 1].toNat_lt
      refine .inr ⟨(((i + 2 : Nat) : Int), ((norm (m + (s[i].toNat * 256 + s[i + 1].toNat)) : Nat) : Int)), ?_, ⟨by simp only; omega, by simp only; omega, by simp only; omega, by simp only; have := norm_le (m + (s[i].toNat * 256 + s[i + 1].toNat)); omega⟩, by simp only; omega, ?_⟩
      · simp (disch := omega) only [wI64, oreq_p, cond_p]
        have e : ((i : Int) + 1).toNat = i + 1 := by omega
        rw [e]
        simp (disch := omega) only [Int.toNat_natCast, List.getElem?_eq_getElem, Option.bind_some, iorI64_low, wI64, fold_eq]
        congr 3 <;> omega
      · simp only [Int.toNat_natCast]
        rw [norm_add, wsum_two hq, Nat.add_assoc]
    · have b1 := s[i].toNat_lt
      refine .inr ⟨(((i + 2 : Nat) : Int), ((norm (m + s[i].toNat * 256) : Nat) : Int)), ?_, ⟨by simp only; omega, by simp only; omega, by simp only; omega, by simp only; have := norm_le (m + s[i].toNat * 256); omega⟩, by simp only; omega, ?_⟩
      · simp (disch := omega) only [wI64, oreq_p, cond_p, cond_n, Int.toNat_natCast, List.getElem?_eq_getElem, Option.bind_some, fold_eq]
        congr 3 <;> omega
      · simp only [Int.toNat_natCast]
        rw [norm_add, wsum_none (i := i + 2) (by omega), Nat.add_zero, wsum_one (i := i) (by omega)]
  · refine .inl ?_
    simp (disch := omega) only [cond_n]
    simp only [Int.toNat_natCast]
    rw [wsum_none (by omega), Nat.add_zero, norm_same (by omega)]
end Go.Vm.Code

namespace Go.Vm.Code
open Go Go.Vm Go.Proofs
set_option maxRecDepth 20000
set_option maxHeartbeats 4000000
set_option linter.unusedVariables false

/-! cloakroom/check.Right -/
def check_RightF (check_Sum : (List UInt8) → Option Int) (s : List UInt8) : Option Bool :=
  (check_Sum s).bind fun s1 =>
  some (s1 == 65535)
def post42 (x : Bool) (v : Value) (H : Hp) : Prop := v = .bool x
def r42 (g : (List UInt8) → Option Bool) : List SArg → Option SRes
  | [.v (.string ⟨⟨a0_1⟩⟩)] => match g a0_1 with | some x => some ⟨.bool x, [], []⟩ | none => none
  | _ => none
def s42 (g : (List UInt8) → Option Bool) : Summ := ⟨[.v], r42 g⟩
theorem r42_eq {g : (List UInt8) → Option Bool} {a0_1 : List UInt8} {x : Bool} (hx : g a0_1 = some x) : (s42 g).run [.v (.string ⟨⟨a0_1⟩⟩)] = some ⟨.bool x, [], []⟩ := by
  show r42 g [.v (.string ⟨⟨a0_1⟩⟩)] = _
  simp only [r42, hx]
abbrev sums42 (check_Sum : (List UInt8) → Option Int) : List (Nat × Summ) := [(29, s29 check_Sum)]
theorem leads42 (check_Sum : (List UInt8) → Option Int) (hS : SumsOK Try.prog (aget (sums42 check_Sum))) (s : List UInt8) (res : Bool) (h : check_RightF check_Sum s = some res) :
    Leads Try.prog 42 0 ⟨⟨42, 6, [(0, .string ⟨⟨s⟩⟩)], [.code k42_3], [], false, none⟩, [], [], 0⟩ (fun v H _ => post42 res v H) := by
  unfold check_RightF at h
  refine ev_ok tab_ok hS true 3000 ?_
  conv => whnf
  obtain ⟨s1, hy, h2⟩ := obind.elim h; clear h; have h := h2; clear h2
  refine sumK.introF [] (sumRun_of (aqs := [.v (.string ⟨⟨s⟩⟩)]) (ra_cons rfl ra_nil) (r29_eq hy) rfl rfl rfl rfl) ?_
  conv => whnf
  all_goals (cases h)
  all_goals exact rfl
theorem ok42 (check_Sum : (List UInt8) → Option Int) (hS : SumsOK Try.prog (aget (sums42 check_Sum))) : SumOK Try.prog 42 (s42 (check_RightF check_Sum)) := by
  refine SumOK.of_leads tab_ok (fun ar r ha hr => ?_) ⟨Try.f42, rfl, by decide, rfl⟩
  simp only [s42] at ha hr
  unfold r42 at hr
  split at hr <;> try (cases hr; done)
  split at hr <;> cases hr
  rename_i x h
  refine ⟨_, rfl, (leads42 check_Sum hS _ x h).mono fun v H t hp => ?_⟩
  cases hp
  exact Res.val rfl trivial
def check_Right : (List UInt8) → Option Bool := check_RightF check_Sum
theorem lift42 : SumOK Try.prog 42 (s42 check_Right) := ok42 check_Sum (SumsOK.of_tab ⟨lift29, trivial⟩)
end Go.Vm.Code

namespace Go.Vm.Code
open Go Go.Vm Go.Proofs
set_option maxRecDepth 20000
set_option maxHeartbeats 4000000
set_option linter.unusedVariables false

/-! cloakroom/octet.Put -/
def octet_Put_s1 (n : Int) (k : Int) (t17 : Int) (b : List Int) : Option (Sum (Int × (List Int)) (List UInt8)) :=
  cond (decide (t17 < (k.toNat : Int)))
    (
    let t := wI .i64 (8 * (wI .i64 ((wI .i64 (k - 1)) - t17)))
    oreq (decide (0 ≤ t)) <|
    oreq (decide ((0 : Int) ≤ t17 ∧ t17 < (k.toNat : Int))) <|
    oreq (decide (t17.toNat < b.length)) <|
    let row := b.set t17.toNat (wI .u8 (n.fdiv (2 ^ (min t.toNat 64))))
    some (.inl (wI .i64 (t17 + 1), row)))
    (
    oreq (decide (k.toNat ≤ b.length)) <|
    some (.inr (iB (b.take k.toNat))))
def octet_PutF (n : Int) (k : Int) : Option (List UInt8) :=
  cond (decide (k < 1))
    (
    some ([]))
    (
    cond (decide (k > 8))
      (
      some ([]))
      (
      oreq (decide (0 ≤ k ∧ k ≤ k ∧ k < 2 ^ 63 ∧ (1 : Int) * k ≤ 2 ^ 48)) <|
      iter (fun st => octet_Put_s1 n k st.1 st.2) FUEL (0, List.replicate k.toNat 0)))
def post74 (x : List UInt8) (v : Value) (H : Hp) : Prop := v = .string ⟨⟨x⟩⟩
def r74 (g : Int → Int → Option (List UInt8)) : List SArg → Option SRes
  | [.v (.int .u64 a0_1), .v (.int .i64 a1_1)] => match g a0_1 a1_1 with | some x => some ⟨.string ⟨⟨x⟩⟩, [], []⟩ | none => none
  | _ => none
def s74 (g : Int → Int → Option (List UInt8)) : Summ := ⟨[.v, .v], r74 g⟩
theorem r74_eq {g : Int → Int → Option (List UInt8)} {a0_1 : Int} {a1_1 : Int} {x : List UInt8} (hx : g a0_1 a1_1 = some x) : (s74 g).run [.v (.int .u64 a0_1), .v (.int .i64 a1_1)] = some ⟨.string ⟨⟨x⟩⟩, [], []⟩ := by
  show r74 g [.v (.int .u64 a0_1), .v (.int .i64 a1_1)] = _
  simp only [r74, hx]
abbrev sums74 : List (Nat × Summ) := []
def head74_1 (n : Int) (k : Int) (t17 : Int) (b : List Int) : VM :=
  ⟨⟨74, 34, [(0, .int .u64 n), (1, .int .i64 k), (5, .slice (some ⟨0, 0, none⟩) k.toNat 1), (16, .int .i64 (k.toNat : Int)), (17, .int .i64 t17)], [.code k74_17, .inLoop k74_17, .inBlock 0, .code k74_22], [], false, none⟩, [], [(0, .row true (vI .u8 b))], 1⟩
theorem loop74_1 (hS : SumsOK Try.prog (aget (sums74))) (n : Int) (k : Int) (res : List UInt8) : ∀ fuel (st : Int × (List Int)) (o : List UInt8), iter (fun st => octet_Put_s1 n k st.1 st.2) fuel st = some o → (o = res) →
    Leads Try.prog 74 0 (head74_1 n k st.1 st.2) (fun v H _ => post74 res v H) := by
  intro fuel st o h hc
  refine iter_leads (head := fun st => head74_1 n k st.1 st.2) (C := fun o => (o = res)) ?_ fuel st o h hc
  clear h hc o st fuel
  intro st o h hc
  obtain ⟨t17, b⟩ := st
  replace h : octet_Put_s1 n k t17 b = some o := h
  show Leads Try.prog 74 0 (head74_1 n k t17 b) (fun v H _ => post74 res v H)
  unfold octet_Put_s1 at h
  refine ev_ok tab_ok hS true 3000 ?_
  conv => whnf
  refine br.h2 h ?_ ?_ ?_
  · rfl
  · clear h; intro hb h; conv => whnf
    replace h := oreq.elim h; have hb := h.1; replace h := h.2
    refine req.intro (by (first | rfl | (simp [vI, vB, vS, bI, oneC, addrBlk, cellsL, Value.cells] at *; omega) | (simp [vI, vB, vS, bI, oneC, addrBlk, cellsL, Value.cells] at *; done))) ?_
    conv => whnf
    refine pk_b2s ?_
    conv => whnf
    all_goals (cases h; cases hc)
    all_goals exact rfl
  clear h; intro hb h; conv => whnf
  let t : Int := wI .i64 (8 * (wI .i64 ((wI .i64 (k - 1)) - t17)))
  replace h := oreq.elim h; have hb := h.1; replace h := h.2
  first | (refine req.intro hb ?_; conv => whnf) | skip
  replace h := oreq.elim h; have hb := h.1; replace h := h.2
  first | (refine req.intro hb ?_; conv => whnf) | skip
  replace h := oreq.elim h; have hb := h.1; replace h := h.2
  refine st_I hb (by first | rfl | omega) ?_
  conv => whnf
  let row : List Int := b.set t17.toNat (wI .u8 (n.fdiv (2 ^ (min t.toNat 64))))
  cases h; simp only [Sum.elim_inl, Sum.elim_inr, head74_1] at hc
  refine Leads.re hc [(0, 0)] rfl ?_ ?_ <;> (repeat' first | exact trivial | refine ⟨⟨_, rfl, rfl⟩, ?_⟩ | refine ⟨⟨_, _, rfl, rfl, .rowF (vI_flat _ _) id⟩, ?_⟩ | refine ⟨⟨_, _, rfl, rfl, .rowF (vS_flat _) id⟩, ?_⟩ | refine ⟨⟨_, _, rfl, rfl, .rowF (vB_flat _) id⟩, ?_⟩ | refine ⟨⟨_, _, rfl, rfl, .cells rfl⟩, ?_⟩ | refine ⟨⟨_, _, rfl, rfl, .row rfl id⟩, ?_⟩ | refine ⟨⟨_, _, rfl, rfl, .cr rfl⟩, ?_⟩ | refine ⟨⟨_, _, rfl, rfl, .rc rfl⟩, ?_⟩ | refine ⟨⟨_, _, rfl, rfl, .marks⟩, ?_⟩ | refine ⟨⟨_, _, rfl, rfl, .loop rfl rfl rfl rfl (by repeat' first | exact trivial | refine ⟨rfl, ?_⟩) rfl rfl rfl rfl⟩, ?_⟩)
theorem leads74 (hS : SumsOK Try.prog (aget (sums74))) (n : Int) (k : Int) (res : List UInt8) (h : octet_PutF n k = some res) :
    Leads Try.prog 74 0 ⟨⟨74, 34, [(0, .int .u64 n), (1, .int .i64 k)], [.code k74_26], [], false, none⟩, [], [], 0⟩ (fun v H _ => post74 res v H) := by
  unfold octet_PutF at h
  refine ev_ok tab_ok hS true 3000 ?_
  conv => whnf
  refine br.h h ?_ ?_ ?_
  · rfl
  · clear h; intro hb h; conv => whnf
    all_goals (cases h)
    all_goals exact rfl
  clear h; intro hb h; conv => whnf
  refine br.h h ?_ ?_ ?_
  · rfl
  · clear h; intro hb h; conv => whnf
    all_goals (cases h)
    all_goals exact rfl
  clear h; intro hb h; conv => whnf
  replace h := oreq.elim h; have hb := h.1; replace h := h.2
  first | (refine req.intro hb ?_; conv => whnf) | skip
  refine pk_mkI ?_
  conv => whnf
  have hl := loop74_1 hS _ _ res _ _ _ h rfl; simp only [head74_1] at hl
  refine Leads.re hl [(0, 0)] rfl ?_ ?_ <;> (repeat' first | exact trivial | refine ⟨⟨_, rfl, rfl⟩, ?_⟩ | refine ⟨⟨_, _, rfl, rfl, .rowF (vI_flat _ _) id⟩, ?_⟩ | refine ⟨⟨_, _, rfl, rfl, .rowF (vS_flat _) id⟩, ?_⟩ | refine ⟨⟨_, _, rfl, rfl, .rowF (vB_flat _) id⟩, ?_⟩ | refine ⟨⟨_, _, rfl, rfl, .cells rfl⟩, ?_⟩ | refine ⟨⟨_, _, rfl, rfl, .row rfl id⟩, ?_⟩ | refine ⟨⟨_, _, rfl, rfl, .cr rfl⟩, ?_⟩ | refine ⟨⟨_, _, rfl, rfl, .rc rfl⟩, ?_⟩ | refine ⟨⟨_, _, rfl, rfl, .marks⟩, ?_⟩ | refine ⟨⟨_, _, rfl, rfl, .loop rfl rfl rfl rfl (by repeat' first | exact trivial | refine ⟨rfl, ?_⟩) rfl rfl rfl rfl⟩, ?_⟩)
theorem ok74 (hS : SumsOK Try.prog (aget (sums74))) : SumOK Try.prog 74 (s74 (octet_PutF)) := by
  refine SumOK.of_leads tab_ok (fun ar r ha hr => ?_) ⟨Try.f74, rfl, by decide, rfl⟩
  simp only [s74] at ha hr
  unfold r74 at hr
  split at hr <;> try (cases hr; done)
  split at hr <;> cases hr
  rename_i x h
  refine ⟨_, rfl, (leads74 hS _ _ x h).mono fun v H t hp => ?_⟩
  cases hp
  exact Res.val rfl trivial
def octet_Put : Int → Int → Option (List UInt8) := octet_PutF
theorem lift74 : SumOK Try.prog 74 (s74 octet_Put) := ok74 (SumsOK.of_tab trivial)
end Go.Vm.Code

namespace Go.Vm.Code
open Go Go.Vm Go.Proofs
set_option maxRecDepth 20000
set_option maxHeartbeats 4000000
set_option linter.unusedVariables false

/-! cloakroom/check.Set -/
def check_SetF (octet_Put : Int → Int → Option (List UInt8)) (s : List UInt8) (ata1 : Int) (k : Int) (n : Int) : Option (List UInt8) :=
  (octet_Put n k).bind fun p =>
  cond (p == [])
    (
    some (s))
    (
    cond (decide (ata1 < 0))
      (
      some (s))
      (
      let t := decide ((wI .i64 ((s.length : Int) - k)) < ata1)
      cond (t)
        (
        some (s))
        (
        oreq (decide ((0 : Int) ≤ ata1 ∧ ata1 ≤ (s.length : Int))) <|
        oreq (decide ((s.take ata1.toNat).length + p.length < 2 ^ 63)) <|
        oreq (decide ((0 : Int) ≤ (wI .i64 (ata1 + k)) ∧ (wI .i64 (ata1 + k)) ≤ (s.length : Int))) <|
        let t1 := (s.drop (wI .i64 (ata1 + k)).toNat).take (s.length - (wI .i64 (ata1 + k)).toNat)
        oreq (decide (((s.take ata1.toNat) ++ p).length + t1.length < 2 ^ 63)) <|
        some (((s.take ata1.toNat) ++ p) ++ t1))))
def post47 (x : List UInt8) (v : Value) (H : Hp) : Prop := v = .string ⟨⟨x⟩⟩
def r47 (g : (List UInt8) → Int → Int → Int → Option (List UInt8)) : List SArg → Option SRes
  | [.v (.string ⟨⟨a0_1⟩⟩), .v (.int .i64 a1_1), .v (.int .i64 a2_1), .v (.int .u64 a3_1)] => match g a0_1 a1_1 a2_1 a3_1 with | some x => some ⟨.string ⟨⟨x⟩⟩, [], []⟩ | none => none
  | _ => none
def s47 (g : (List UInt8) → Int → Int → Int → Option (List UInt8)) : Summ := ⟨[.v, .v, .v, .v], r47 g⟩
theorem r47_eq {g : (List UInt8) → Int → Int → Int → Option (List UInt8)} {a0_1 : List UInt8} {a1_1 : Int} {a2_1 : Int} {a3_1 : Int} {x : List UInt8} (hx : g a0_1 a1_1 a2_1 a3_1 = some x) : (s47 g).run [.v (.string ⟨⟨a0_1⟩⟩), .v (.int .i64 a1_1), .v (.int .i64 a2_1), .v (.int .u64 a3_1)] = some ⟨.string ⟨⟨x⟩⟩, [], []⟩ := by
  show r47 g [.v (.string ⟨⟨a0_1⟩⟩), .v (.int .i64 a1_1), .v (.int .i64 a2_1), .v (.int .u64 a3_1)] = _
  simp only [r47, hx]
abbrev sums47 (octet_Put : Int → Int → Option (List UInt8)) : List (Nat × Summ) := [(74, s74 octet_Put)]
theorem leads47 (octet_Put : Int → Int → Option (List UInt8)) (hS : SumsOK Try.prog (aget (sums47 octet_Put))) (s : List UInt8) (ata1 : Int) (k : Int) (n : Int) (res : List UInt8) (h : check_SetF octet_Put s ata1 k n = some res) :
    Leads Try.prog 47 0 ⟨⟨47, 39, [(0, .string ⟨⟨s⟩⟩), (1, .int .i64 ata1), (2, .int .i64 k), (3, .int .u64 n)], [.code k47_11], [], false, none⟩, [], [], 0⟩ (fun v H _ => post47 res v H) := by
  unfold check_SetF at h
  refine ev_ok tab_ok hS true 3000 ?_
  conv => whnf
  obtain ⟨p, hy, h2⟩ := obind.elim h; clear h; have h := h2; clear h2
  refine sumK.introF [] (sumRun_of (aqs := [.v (.int .u64 n), .v (.int .i64 k)]) (ra_cons rfl (ra_cons rfl ra_nil)) (r74_eq hy) rfl rfl rfl rfl) ?_
  conv => whnf
  refine br.h h ?_ ?_ ?_
  · rfl
  · clear h; intro hb h; conv => whnf
    all_goals (cases h)
    all_goals exact rfl
  clear h; intro hb h; conv => whnf
  refine br.h h ?_ ?_ ?_
  · rfl
  · clear h; intro hb h; conv => whnf
    all_goals (cases h)
    all_goals exact rfl
  clear h; intro hb h; conv => whnf
  let t : Bool := decide ((wI .i64 ((s.length : Int) - k)) < ata1)
  refine br.h h ?_ ?_ ?_
  · rfl
  · clear h; intro hb h; conv => whnf
    all_goals (cases h)
    all_goals exact rfl
  clear h; intro hb h; conv => whnf
  replace h := oreq.elim h; have hb := h.1; replace h := h.2
  first | (refine req.intro hb ?_; conv => whnf) | skip
  replace h := oreq.elim h; have hb := h.1; replace h := h.2
  first | (refine req.intro hb ?_; conv => whnf) | skip
  replace h := oreq.elim h; have hb := h.1; replace h := h.2
  first | (refine req.intro hb ?_; conv => whnf) | skip
  let t1 : List UInt8 := (s.drop (wI .i64 (ata1 + k)).toNat).take (s.length - (wI .i64 (ata1 + k)).toNat)
  replace h := oreq.elim h; have hb := h.1; replace h := h.2
  first | (refine req.intro hb ?_; conv => whnf) | skip
  all_goals (cases h)
  all_goals exact rfl
theorem ok47 (octet_Put : Int → Int → Option (List UInt8)) (hS : SumsOK Try.prog (aget (sums47 octet_Put))) : SumOK Try.prog 47 (s47 (check_SetF octet_Put)) := by
  refine SumOK.of_leads tab_ok (fun ar r ha hr => ?_) ⟨Try.f47, rfl, by decide, rfl⟩
  simp only [s47] at ha hr
  unfold r47 at hr
  split at hr <;> try (cases hr; done)
  split at hr <;> cases hr
  rename_i x h
  refine ⟨_, rfl, (leads47 octet_Put hS _ _ _ _ x h).mono fun v H t hp => ?_⟩
  cases hp
  exact Res.val rfl trivial
def check_Set : (List UInt8) → Int → Int → Int → Option (List UInt8) := check_SetF octet_Put
theorem lift47 : SumOK Try.prog 47 (s47 check_Set) := ok47 octet_Put (SumsOK.of_tab ⟨lift74, trivial⟩)
end Go.Vm.Code

namespace Go.Vm.Code
open Go Go.Vm Go.Proofs
set_option maxRecDepth 20000
set_option maxHeartbeats 4000000
set_option linter.unusedVariables false

/-! cloakroom/cloakroomlaw03.awake -/
def law03_awakeF (check_Sum : (List UInt8) → Option Int) (check_Right : (List UInt8) → Option Bool) (check_Set : (List UInt8) → Int → Int → Int → Option (List UInt8)) : Option Bool :=
  (check_Sum [0, 1, 242, 3]).bind fun s =>
  cond (s == 61956)
    (
    (check_Right [255, 255]).bind fun xr =>
    cond (xr)
      (
      (check_Right [0, 0]).bind fun xr1 =>
      cond (!xr1)
        (
        (check_Set [97, 98, 99] 1 1 65).bind fun s1 =>
        some (s1 == [97, 65, 99]))
        (
        some (false)))
      (
      some (false)))
    (
    some (false))
def post28 (x : Bool) (v : Value) (H : Hp) : Prop := v = .bool x
def r28 (g : Option Bool) : List SArg → Option SRes
  | [] => match g  with | some x => some ⟨.bool x, [], []⟩ | none => none
  | _ => none
def s28 (g : Option Bool) : Summ := ⟨[], r28 g⟩
theorem r28_eq {g : Option Bool} {x : Bool} (hx : g  = some x) : (s28 g).run [] = some ⟨.bool x, [], []⟩ := by
  show r28 g [] = _
  simp only [r28, hx]
abbrev sums28 (check_Sum : (List UInt8) → Option Int) (check_Right : (List UInt8) → Option Bool) (check_Set : (List UInt8) → Int → Int → Int → Option (List UInt8)) : List (Nat × Summ) := [(29, s29 check_Sum), (42, s42 check_Right), (47, s47 check_Set)]
theorem leads28 (check_Sum : (List UInt8) → Option Int) (check_Right : (List UInt8) → Option Bool) (check_Set : (List UInt8) → Int → Int → Int → Option (List UInt8)) (hS : SumsOK Try.prog (aget (sums28 check_Sum check_Right check_Set))) (res : Bool) (h : law03_awakeF check_Sum check_Right check_Set = some res) :
    Leads Try.prog 28 0 ⟨⟨28, 14, [], [.code k28_3], [], false, none⟩, [], [], 0⟩ (fun v H _ => post28 res v H) := by
  unfold law03_awakeF at h
  refine ev_ok tab_ok hS true 3000 ?_
  conv => whnf
  obtain ⟨s, hy, h2⟩ := obind.elim h; clear h; have h := h2; clear h2
  refine sumK.introF [] (sumRun_of (aqs := [.v (.string ⟨⟨[0, 1, 242, 3]⟩⟩)]) (ra_cons rfl ra_nil) (r29_eq hy) rfl rfl rfl rfl) ?_
  conv => whnf
  refine br.h2 h ?_ ?_ ?_
  · rfl
  · clear h; intro hb h; conv => whnf
    all_goals (cases h)
    all_goals exact rfl
  clear h; intro hb h; conv => whnf
  obtain ⟨xr, hy, h2⟩ := obind.elim h; clear h; have h := h2; clear h2
  refine sumK.introF [] (sumRun_of (aqs := [.v (.string ⟨⟨[255, 255]⟩⟩)]) (ra_cons rfl ra_nil) (r42_eq hy) rfl rfl rfl rfl) ?_
  conv => whnf
  refine br.h2 h ?_ ?_ ?_
  · rfl
  · clear h; intro hb h; conv => whnf
    all_goals (cases h)
    all_goals exact rfl
  clear h; intro hb h; conv => whnf
  obtain ⟨xr1, hy, h2⟩ := obind.elim h; clear h; have h := h2; clear h2
  refine sumK.introF [] (sumRun_of (aqs := [.v (.string ⟨⟨[0, 0]⟩⟩)]) (ra_cons rfl ra_nil) (r42_eq hy) rfl rfl rfl rfl) ?_
  conv => whnf
  refine br.h2 h ?_ ?_ ?_
  · rfl
  · clear h; intro hb h; conv => whnf
    all_goals (cases h)
    all_goals exact rfl
  clear h; intro hb h; conv => whnf
  obtain ⟨s1, hy, h2⟩ := obind.elim h; clear h; have h := h2; clear h2
  refine sumK.introF [] (sumRun_of (aqs := [.v (.string ⟨⟨[97, 98, 99]⟩⟩), .v (.int .i64 1), .v (.int .i64 1), .v (.int .u64 65)]) (ra_cons rfl (ra_cons rfl (ra_cons rfl (ra_cons rfl ra_nil)))) (r47_eq hy) rfl rfl rfl rfl) ?_
  conv => whnf
  all_goals (cases h)
  all_goals exact rfl
theorem ok28 (check_Sum : (List UInt8) → Option Int) (check_Right : (List UInt8) → Option Bool) (check_Set : (List UInt8) → Int → Int → Int → Option (List UInt8)) (hS : SumsOK Try.prog (aget (sums28 check_Sum check_Right check_Set))) : SumOK Try.prog 28 (s28 (law03_awakeF check_Sum check_Right check_Set)) := by
  refine SumOK.of_leads tab_ok (fun ar r ha hr => ?_) ⟨Try.f28, rfl, by decide, rfl⟩
  simp only [s28] at ha hr
  unfold r28 at hr
  split at hr <;> try (cases hr; done)
  split at hr <;> cases hr
  rename_i x h
  refine ⟨_, rfl, (leads28 check_Sum check_Right check_Set hS x h).mono fun v H t hp => ?_⟩
  cases hp
  exact Res.val rfl trivial
def law03_awake : Option Bool := law03_awakeF check_Sum check_Right check_Set
theorem lift28 : SumOK Try.prog 28 (s28 law03_awake) := ok28 check_Sum check_Right check_Set (SumsOK.of_tab ⟨lift29, lift42, lift47, trivial⟩)
end Go.Vm.Code

namespace Go.Vm.Code
open Go Go.Vm Go.Proofs
set_option maxRecDepth 20000
set_option maxHeartbeats 4000000
set_option linter.unusedVariables false

/-! cloakroom/cloakroomlaw03.CheckOrder -/
def law03_CheckOrder_s1 (law03_awake : Option Bool) (check_Sum : (List UInt8) → Option Int) (a : List UInt8) (b : List UInt8) (zero : Bool) (turned : List UInt8) (i : Int) : Option (Sum (Bool × (List UInt8) × Int) Bool) :=
  cond (decide (i < ((a ++ b).length : Int)))
    (
    cond (zero)
      (
      oreq (decide (0 ≤ i)) <|
      ((a ++ b)[i.toNat]?).bind fun (b1 : UInt8) =>
      cond ((b1.toNat : Int) == 0)
        (
        oreq (decide (0 ≤ (wI .i64 (i + 1)))) <|
        ((a ++ b)[(wI .i64 (i + 1)).toNat]?).bind fun (b2 : UInt8) =>
        oreq (decide ((0 : Int) ≤ (wI .i64 (i + 2)) ∧ (wI .i64 (i + 2)) ≤ ((a ++ b).length : Int) ∧ (0 : Int) ≤ (wI .i64 (i + 1)) ∧ (wI .i64 (i + 1)) ≤ ((wI .i64 (i + 2)).toNat : Int))) <|
        let t := ((a ++ b).drop (wI .i64 (i + 1)).toNat).take ((wI .i64 (i + 2)).toNat - (wI .i64 (i + 1)).toNat)
        oreq (decide (turned.length + t.length < 2 ^ 63)) <|
        oreq (decide ((0 : Int) ≤ (wI .i64 (i + 1)) ∧ (wI .i64 (i + 1)) ≤ ((a ++ b).length : Int) ∧ (0 : Int) ≤ i ∧ i ≤ ((wI .i64 (i + 1)).toNat : Int))) <|
        let t1 := ((a ++ b).drop i.toNat).take ((wI .i64 (i + 1)).toNat - i.toNat)
        oreq (decide ((turned ++ t).length + t1.length < 2 ^ 63)) <|
        some (.inl ((b2.toNat : Int) == 0, (turned ++ t) ++ t1, wI .i64 (i + 2))))
        (
        oreq (decide ((0 : Int) ≤ (wI .i64 (i + 2)) ∧ (wI .i64 (i + 2)) ≤ ((a ++ b).length : Int) ∧ (0 : Int) ≤ (wI .i64 (i + 1)) ∧ (wI .i64 (i + 1)) ≤ ((wI .i64 (i + 2)).toNat : Int))) <|
        let t2 := ((a ++ b).drop (wI .i64 (i + 1)).toNat).take ((wI .i64 (i + 2)).toNat - (wI .i64 (i + 1)).toNat)
        oreq (decide (turned.length + t2.length < 2 ^ 63)) <|
        oreq (decide ((0 : Int) ≤ (wI .i64 (i + 1)) ∧ (wI .i64 (i + 1)) ≤ ((a ++ b).length : Int) ∧ (0 : Int) ≤ i ∧ i ≤ ((wI .i64 (i + 1)).toNat : Int))) <|
        let t3 := ((a ++ b).drop i.toNat).take ((wI .i64 (i + 1)).toNat - i.toNat)
        oreq (decide ((turned ++ t2).length + t3.length < 2 ^ 63)) <|
        some (.inl (false, (turned ++ t2) ++ t3, wI .i64 (i + 2)))))
      (
      oreq (decide ((0 : Int) ≤ (wI .i64 (i + 2)) ∧ (wI .i64 (i + 2)) ≤ ((a ++ b).length : Int) ∧ (0 : Int) ≤ (wI .i64 (i + 1)) ∧ (wI .i64 (i + 1)) ≤ ((wI .i64 (i + 2)).toNat : Int))) <|
      let t4 := ((a ++ b).drop (wI .i64 (i + 1)).toNat).take ((wI .i64 (i + 2)).toNat - (wI .i64 (i + 1)).toNat)
      oreq (decide (turned.length + t4.length < 2 ^ 63)) <|
      oreq (decide ((0 : Int) ≤ (wI .i64 (i + 1)) ∧ (wI .i64 (i + 1)) ≤ ((a ++ b).length : Int) ∧ (0 : Int) ≤ i ∧ i ≤ ((wI .i64 (i + 1)).toNat : Int))) <|
      let t5 := ((a ++ b).drop i.toNat).take ((wI .i64 (i + 1)).toNat - i.toNat)
      oreq (decide ((turned ++ t4).length + t5.length < 2 ^ 63)) <|
      some (.inl (false, (turned ++ t4) ++ t5, wI .i64 (i + 2)))))
    (
    (check_Sum (a ++ b)).bind fun s =>
    oreq (decide (b.length + a.length < 2 ^ 63)) <|
    (check_Sum (b ++ a)).bind fun s1 =>
    cond (s == s1)
      (
      cond ((s == 0) == zero)
        (
        cond (decide (s ≥ 0))
          (
          cond (decide (s ≤ 65535))
            (
            (check_Sum turned).bind fun s2 =>
            let t6 := wI .i64 ((wI .i64 (s.tdiv 256)) + (wI .i64 ((s.tmod 256) * 256)))
            cond (s2 == t6)
              (
              (law03_awake).bind fun a5 =>
              some (.inr (a5)))
              (
              some (.inr (false))))
            (
            some (.inr (false))))
          (
          some (.inr (false))))
        (
        some (.inr (false))))
      (
      some (.inr (false))))
def law03_CheckOrderF (law03_awake : Option Bool) (check_Sum : (List UInt8) → Option Int) (a : List UInt8) (b : List UInt8) : Option Bool :=
  cond (decide ((a.length : Int) > 100))
    (
    (law03_awake).bind fun a1 =>
    some (a1))
    (
    cond (decide ((b.length : Int) > 100))
      (
      (law03_awake).bind fun a2 =>
      some (a2))
      (
      cond (((a.length : Int).tmod 2) == 1)
        (
        (law03_awake).bind fun a3 =>
        some (a3))
        (
        cond (((b.length : Int).tmod 2) == 1)
          (
          (law03_awake).bind fun a4 =>
          some (a4))
          (
          oreq (decide (a.length + b.length < 2 ^ 63)) <|
          iter (fun st => law03_CheckOrder_s1 law03_awake check_Sum a b st.1 st.2.1 st.2.2) FUEL (true, [], 0)))))
def post7 (x : Bool) (v : Value) (H : Hp) : Prop := v = .bool x
def r7 (g : (List UInt8) → (List UInt8) → Option Bool) : List SArg → Option SRes
  | [.v (.string ⟨⟨a0_1⟩⟩), .v (.string ⟨⟨a1_1⟩⟩)] => match g a0_1 a1_1 with | some x => some ⟨.bool x, [], []⟩ | none => none
  | _ => none
def s7 (g : (List UInt8) → (List UInt8) → Option Bool) : Summ := ⟨[.v, .v], r7 g⟩
theorem r7_eq {g : (List UInt8) → (List UInt8) → Option Bool} {a0_1 : List UInt8} {a1_1 : List UInt8} {x : Bool} (hx : g a0_1 a1_1 = some x) : (s7 g).run [.v (.string ⟨⟨a0_1⟩⟩), .v (.string ⟨⟨a1_1⟩⟩)] = some ⟨.bool x, [], []⟩ := by
  show r7 g [.v (.string ⟨⟨a0_1⟩⟩), .v (.string ⟨⟨a1_1⟩⟩)] = _
  simp only [r7, hx]
abbrev sums7 (law03_awake : Option Bool) (check_Sum : (List UInt8) → Option Int) : List (Nat × Summ) := [(28, s28 law03_awake), (29, s29 check_Sum)]
def head7_1 (a : List UInt8) (b : List UInt8) (zero : Bool) (turned : List UInt8) (i : Int) : VM :=
  ⟨⟨7, 104, [(0, .string ⟨⟨a⟩⟩), (1, .string ⟨⟨b⟩⟩), (5, .bool zero), (6, .string ⟨⟨turned⟩⟩), (7, .string ⟨⟨a ++ b⟩⟩), (8, .int .i64 i)], [.code k7_19, .inLoop k7_19, .inBlock 0, .code k7_26], [], false, none⟩, [], [], 0⟩
theorem loop7_1 (law03_awake : Option Bool) (check_Sum : (List UInt8) → Option Int) (hS : SumsOK Try.prog (aget (sums7 law03_awake check_Sum))) (a : List UInt8) (b : List UInt8) (res : Bool) : ∀ fuel (st : Bool × (List UInt8) × Int) (o : Bool), iter (fun st => law03_CheckOrder_s1 law03_awake check_Sum a b st.1 st.2.1 st.2.2) fuel st = some o → (o = res) →
    Leads Try.prog 7 0 (head7_1 a b st.1 st.2.1 st.2.2) (fun v H _ => post7 res v H) := by
  intro fuel st o h hc
  refine iter_leads (head := fun st => head7_1 a b st.1 st.2.1 st.2.2) (C := fun o => (o = res)) ?_ fuel st o h hc
  clear h hc o st fuel
  intro st o h hc
  obtain ⟨zero, turned, i⟩ := st
  replace h : law03_CheckOrder_s1 law03_awake check_Sum a b zero turned i = some o := h
  show Leads Try.prog 7 0 (head7_1 a b zero turned i) (fun v H _ => post7 res v H)
  unfold law03_CheckOrder_s1 at h
  refine ev_ok tab_ok hS true 3000 ?_
  conv => whnf
  refine br.h2 h ?_ ?_ ?_
  · rfl
  · clear h; intro hb h; conv => whnf
    obtain ⟨s, hy, h2⟩ := obind.elim h; clear h; have h := h2; clear h2
    refine sumK.introF [] (sumRun_of (aqs := [.v (.string ⟨⟨a ++ b⟩⟩)]) (ra_cons rfl ra_nil) (r29_eq hy) rfl rfl rfl rfl) ?_
    conv => whnf
    replace h := oreq.elim h; have hb := h.1; replace h := h.2
    first | (refine req.intro hb ?_; conv => whnf) | skip
    obtain ⟨s1, hy, h2⟩ := obind.elim h; clear h; have h := h2; clear h2
    refine sumK.introF [] (sumRun_of (aqs := [.v (.string ⟨⟨b ++ a⟩⟩)]) (ra_cons rfl ra_nil) (r29_eq hy) rfl rfl rfl rfl) ?_
    conv => whnf
    refine br.h2 h ?_ ?_ ?_
    · rfl
    · clear h; intro hb h; conv => whnf
      all_goals (cases h; cases hc)
      all_goals exact rfl
    clear h; intro hb h; conv => whnf
    refine br.h2 h ?_ ?_ ?_
    · rfl
    · clear h; intro hb h; conv => whnf
      all_goals (cases h; cases hc)
      all_goals exact rfl
    clear h; intro hb h; conv => whnf
    refine br.h2 h ?_ ?_ ?_
    · rfl
    · clear h; intro hb h; conv => whnf
      all_goals (cases h; cases hc)
      all_goals exact rfl
    clear h; intro hb h; conv => whnf
    refine br.h2 h ?_ ?_ ?_
    · rfl
    · clear h; intro hb h; conv => whnf
      all_goals (cases h; cases hc)
      all_goals exact rfl
    clear h; intro hb h; conv => whnf
    obtain ⟨s2, hy, h2⟩ := obind.elim h; clear h; have h := h2; clear h2
    refine sumK.introF [] (sumRun_of (aqs := [.v (.string ⟨⟨turned⟩⟩)]) (ra_cons rfl ra_nil) (r29_eq hy) rfl rfl rfl rfl) ?_
    conv => whnf
    let t6 : Int := wI .i64 ((wI .i64 (s.tdiv 256)) + (wI .i64 ((s.tmod 256) * 256)))
    refine br.h2 h ?_ ?_ ?_
    · rfl
    · clear h; intro hb h; conv => whnf
      all_goals (cases h; cases hc)
      all_goals exact rfl
    clear h; intro hb h; conv => whnf
    obtain ⟨a5, hy, h2⟩ := obind.elim h; clear h; have h := h2; clear h2
    refine sumK.introF [] (sumRun_of (aqs := []) ra_nil (r28_eq hy) rfl rfl rfl rfl) ?_
    conv => whnf
    all_goals (cases h; cases hc)
    all_goals exact rfl
  clear h; intro hb h; conv => whnf
  refine br.h2 h ?_ ?_ ?_
  · rfl
  · clear h; intro hb h; conv => whnf
    replace h := oreq.elim h; have hb := h.1; replace h := h.2
    first | (refine req.intro hb ?_; conv => whnf) | skip
    let t4 : List UInt8 := ((a ++ b).drop (wI .i64 (i + 1)).toNat).take ((wI .i64 (i + 2)).toNat - (wI .i64 (i + 1)).toNat)
    replace h := oreq.elim h; have hb := h.1; replace h := h.2
    first | (refine req.intro hb ?_; conv => whnf) | skip
    replace h := oreq.elim h; have hb := h.1; replace h := h.2
    first | (refine req.intro hb ?_; conv => whnf) | skip
    let t5 : List UInt8 := ((a ++ b).drop i.toNat).take ((wI .i64 (i + 1)).toNat - i.toNat)
    replace h := oreq.elim h; have hb := h.1; replace h := h.2
    first | (refine req.intro hb ?_; conv => whnf) | skip
    cases h; simp only [Sum.elim_inl, Sum.elim_inr, head7_1] at hc
    refine Leads.re hc [] rfl ?_ ?_ <;> (repeat' first | exact trivial | refine ⟨⟨_, rfl, rfl⟩, ?_⟩ | refine ⟨⟨_, _, rfl, rfl, .rowF (vI_flat _ _) id⟩, ?_⟩ | refine ⟨⟨_, _, rfl, rfl, .rowF (vS_flat _) id⟩, ?_⟩ | refine ⟨⟨_, _, rfl, rfl, .rowF (vB_flat _) id⟩, ?_⟩ | refine ⟨⟨_, _, rfl, rfl, .cells rfl⟩, ?_⟩ | refine ⟨⟨_, _, rfl, rfl, .row rfl id⟩, ?_⟩ | refine ⟨⟨_, _, rfl, rfl, .cr rfl⟩, ?_⟩ | refine ⟨⟨_, _, rfl, rfl, .rc rfl⟩, ?_⟩ | refine ⟨⟨_, _, rfl, rfl, .marks⟩, ?_⟩ | refine ⟨⟨_, _, rfl, rfl, .loop rfl rfl rfl rfl (by repeat' first | exact trivial | refine ⟨rfl, ?_⟩) rfl rfl rfl rfl⟩, ?_⟩)
  clear h; intro hb h; conv => whnf
  replace h := oreq.elim h; have hb := h.1; replace h := h.2
  first | (refine req.intro hb ?_; conv => whnf) | skip
  obtain ⟨b1, hy, h2⟩ := obind.elim h; clear h; have h := h2; clear h2
  refine rdS.intro hy ?_
  conv => whnf
  refine br.h2 h ?_ ?_ ?_
  · rfl
  · clear h; intro hb h; conv => whnf
    replace h := oreq.elim h; have hb := h.1; replace h := h.2
    first | (refine req.intro hb ?_; conv => whnf) | skip
    let t2 : List UInt8 := ((a ++ b).drop (wI .i64 (i + 1)).toNat).take ((wI .i64 (i + 2)).toNat - (wI .i64 (i + 1)).toNat)
    replace h := oreq.elim h; have hb := h.1; replace h := h.2
    first | (refine req.intro hb ?_; conv => whnf) | skip
    replace h := oreq.elim h; have hb := h.1; replace h := h.2
    first | (refine req.intro hb ?_; conv => whnf) | skip
    let t3 : List UInt8 := ((a ++ b).drop i.toNat).take ((wI .i64 (i + 1)).toNat - i.toNat)
    replace h := oreq.elim h; have hb := h.1; replace h := h.2
    first | (refine req.intro hb ?_; conv => whnf) | skip
    cases h; simp only [Sum.elim_inl, Sum.elim_inr, head7_1] at hc
    refine Leads.re hc [] rfl ?_ ?_ <;> (repeat' first | exact trivial | refine ⟨⟨_, rfl, rfl⟩, ?_⟩ | refine ⟨⟨_, _, rfl, rfl, .rowF (vI_flat _ _) id⟩, ?_⟩ | refine ⟨⟨_, _, rfl, rfl, .rowF (vS_flat _) id⟩, ?_⟩ | refine ⟨⟨_, _, rfl, rfl, .rowF (vB_flat _) id⟩, ?_⟩ | refine ⟨⟨_, _, rfl, rfl, .cells rfl⟩, ?_⟩ | refine ⟨⟨_, _, rfl, rfl, .row rfl id⟩, ?_⟩ | refine ⟨⟨_, _, rfl, rfl, .cr rfl⟩, ?_⟩ | refine ⟨⟨_, _, rfl, rfl, .rc rfl⟩, ?_⟩ | refine ⟨⟨_, _, rfl, rfl, .marks⟩, ?_⟩ | refine ⟨⟨_, _, rfl, rfl, .loop rfl rfl rfl rfl (by repeat' first | exact trivial | refine ⟨rfl, ?_⟩) rfl rfl rfl rfl⟩, ?_⟩)
  clear h; intro hb h; conv => whnf
  replace h := oreq.elim h; have hb := h.1; replace h := h.2
  first | (refine req.intro hb ?_; conv => whnf) | skip
  obtain ⟨b2, hy, h2⟩ := obind.elim h; clear h; have h := h2; clear h2
  refine rdS.intro hy ?_
  conv => whnf
  replace h := oreq.elim h; have hb := h.1; replace h := h.2
  first | (refine req.intro hb ?_; conv => whnf) | skip
  let t : List UInt8 := ((a ++ b).drop (wI .i64 (i + 1)).toNat).take ((wI .i64 (i + 2)).toNat - (wI .i64 (i + 1)).toNat)
  replace h := oreq.elim h; have hb := h.1; replace h := h.2
  first | (refine req.intro hb ?_; conv => whnf) | skip
  replace h := oreq.elim h; have hb := h.1; replace h := h.2
  first | (refine req.intro hb ?_; conv => whnf) | skip
  let t1 : List UInt8 := ((a ++ b).drop i.toNat).take ((wI .i64 (i + 1)).toNat - i.toNat)
  replace h := oreq.elim h; have hb := h.1; replace h := h.2
  first | (refine req.intro hb ?_; conv => whnf) | skip
  cases h; simp only [Sum.elim_inl, Sum.elim_inr, head7_1] at hc
  refine Leads.re hc [] rfl ?_ ?_ <;> (repeat' first | exact trivial | refine ⟨⟨_, rfl, rfl⟩, ?_⟩ | refine ⟨⟨_, _, rfl, rfl, .rowF (vI_flat _ _) id⟩, ?_⟩ | refine ⟨⟨_, _, rfl, rfl, .rowF (vS_flat _) id⟩, ?_⟩ | refine ⟨⟨_, _, rfl, rfl, .rowF (vB_flat _) id⟩, ?_⟩ | refine ⟨⟨_, _, rfl, rfl, .cells rfl⟩, ?_⟩ | refine ⟨⟨_, _, rfl, rfl, .row rfl id⟩, ?_⟩ | refine ⟨⟨_, _, rfl, rfl, .cr rfl⟩, ?_⟩ | refine ⟨⟨_, _, rfl, rfl, .rc rfl⟩, ?_⟩ | refine ⟨⟨_, _, rfl, rfl, .marks⟩, ?_⟩ | refine ⟨⟨_, _, rfl, rfl, .loop rfl rfl rfl rfl (by repeat' first | exact trivial | refine ⟨rfl, ?_⟩) rfl rfl rfl rfl⟩, ?_⟩)
theorem leads7 (law03_awake : Option Bool) (check_Sum : (List UInt8) → Option Int) (hS : SumsOK Try.prog (aget (sums7 law03_awake check_Sum))) (a : List UInt8) (b : List UInt8) (res : Bool) (h : law03_CheckOrderF law03_awake check_Sum a b = some res) :
    Leads Try.prog 7 0 ⟨⟨7, 104, [(0, .string ⟨⟨a⟩⟩), (1, .string ⟨⟨b⟩⟩)], [.code k7_32], [], false, none⟩, [], [], 0⟩ (fun v H _ => post7 res v H) := by
  unfold law03_CheckOrderF at h
  refine ev_ok tab_ok hS true 3000 ?_
  conv => whnf
  refine br.h h ?_ ?_ ?_
  · rfl
  · clear h; intro hb h; conv => whnf
    obtain ⟨a1, hy, h2⟩ := obind.elim h; clear h; have h := h2; clear h2
    refine sumK.introF [] (sumRun_of (aqs := []) ra_nil (r28_eq hy) rfl rfl rfl rfl) ?_
    conv => whnf
    all_goals (cases h)
    all_goals exact rfl
  clear h; intro hb h; conv => whnf
  refine br.h h ?_ ?_ ?_
  · rfl
  · clear h; intro hb h; conv => whnf
    obtain ⟨a2, hy, h2⟩ := obind.elim h; clear h; have h := h2; clear h2
    refine sumK.introF [] (sumRun_of (aqs := []) ra_nil (r28_eq hy) rfl rfl rfl rfl) ?_
    conv => whnf
    all_goals (cases h)
    all_goals exact rfl
  clear h; intro hb h; conv => whnf
  refine br.h h ?_ ?_ ?_
  · rfl
  · clear h; intro hb h; conv => whnf
    obtain ⟨a3, hy, h2⟩ := obind.elim h; clear h; have h := h2; clear h2
    refine sumK.introF [] (sumRun_of (aqs := []) ra_nil (r28_eq hy) rfl rfl rfl rfl) ?_
    conv => whnf
    all_goals (cases h)
    all_goals exact rfl
  clear h; intro hb h; conv => whnf
  refine br.h h ?_ ?_ ?_
  · rfl
  · clear h; intro hb h; conv => whnf
    obtain ⟨a4, hy, h2⟩ := obind.elim h; clear h; have h := h2; clear h2
    refine sumK.introF [] (sumRun_of (aqs := []) ra_nil (r28_eq hy) rfl rfl rfl rfl) ?_
    conv => whnf
    all_goals (cases h)
    all_goals exact rfl
  clear h; intro hb h; conv => whnf
  replace h := oreq.elim h; have hb := h.1; replace h := h.2
  first | (refine req.intro hb ?_; conv => whnf) | skip
  have hl := loop7_1 law03_awake check_Sum hS _ _ res _ _ _ h rfl; simp only [head7_1] at hl
  refine Leads.re hl [] rfl ?_ ?_ <;> (repeat' first | exact trivial | refine ⟨⟨_, rfl, rfl⟩, ?_⟩ | refine ⟨⟨_, _, rfl, rfl, .rowF (vI_flat _ _) id⟩, ?_⟩ | refine ⟨⟨_, _, rfl, rfl, .rowF (vS_flat _) id⟩, ?_⟩ | refine ⟨⟨_, _, rfl, rfl, .rowF (vB_flat _) id⟩, ?_⟩ | refine ⟨⟨_, _, rfl, rfl, .cells rfl⟩, ?_⟩ | refine ⟨⟨_, _, rfl, rfl, .row rfl id⟩, ?_⟩ | refine ⟨⟨_, _, rfl, rfl, .cr rfl⟩, ?_⟩ | refine ⟨⟨_, _, rfl, rfl, .rc rfl⟩, ?_⟩ | refine ⟨⟨_, _, rfl, rfl, .marks⟩, ?_⟩ | refine ⟨⟨_, _, rfl, rfl, .loop rfl rfl rfl rfl (by repeat' first | exact trivial | refine ⟨rfl, ?_⟩) rfl rfl rfl rfl⟩, ?_⟩)
theorem ok7 (law03_awake : Option Bool) (check_Sum : (List UInt8) → Option Int) (hS : SumsOK Try.prog (aget (sums7 law03_awake check_Sum))) : SumOK Try.prog 7 (s7 (law03_CheckOrderF law03_awake check_Sum)) := by
  refine SumOK.of_leads tab_ok (fun ar r ha hr => ?_) ⟨Try.f7, rfl, by decide, rfl⟩
  simp only [s7] at ha hr
  unfold r7 at hr
  split at hr <;> try (cases hr; done)
  split at hr <;> cases hr
  rename_i x h
  refine ⟨_, rfl, (leads7 law03_awake check_Sum hS _ _ x h).mono fun v H t hp => ?_⟩
  cases hp
  exact Res.val rfl trivial
def law03_CheckOrder : (List UInt8) → (List UInt8) → Option Bool := law03_CheckOrderF law03_awake check_Sum
theorem lift7 : SumOK Try.prog 7 (s7 law03_CheckOrder) := ok7 law03_awake check_Sum (SumsOK.of_tab ⟨lift28, lift29, trivial⟩)
end Go.Vm.Code

/- CheckOrder, in plain words. -/
namespace Go.Vm.Code
open Go Go.Vm

/-- two bytes turned round in all words -/
def swp : List UInt8 → List UInt8
  | b :: c :: l => c :: b :: swp l
  | l => l
theorem wsum_append : ∀ (a b : List UInt8), a.length % 2 = 0 → wsum (a ++ b) = wsum a + wsum b
  | [], b, _ => by simp [wsum]
  | [_], b, h => by simp at h
  | x :: y :: a, b, h => by
    have := wsum_append a b (by simp at h; omega)
    simp only [List.cons_append, wsum, this]; omega
theorem swp_snoc : ∀ (a : List UInt8) (x y : UInt8), a.length % 2 = 0 → swp (a ++ [x, y]) = swp a ++ [y, x]
  | [], x, y, _ => rfl
  | [_], _, _, h => by simp at h
  | u :: v :: a, x, y, h => by
    have := swp_snoc a x y (by simp at h; omega)
    simp only [List.cons_append, swp, this]
theorem swp_len : ∀ a : List UInt8, (swp a).length = a.length
  | [] => rfl
  | [_] => rfl
  | _ :: _ :: a => by simp [swp, swp_len a]
theorem wsum_swp : ∀ a : List UInt8, a.length % 2 = 0 → wsum (swp a) % 65535 = (256 * wsum a) % 65535 ∧ (wsum (swp a) = 0 ↔ wsum a = 0)
  | [], _ => by simp [swp, wsum]
  | [_], h => by simp at h
  | x :: y :: a, h => by
    obtain ⟨h1, h2⟩ := wsum_swp a (by simp at h; omega)
    have hx := x.toNat_lt
    have hy := y.toNat_lt
    simp only [swp, wsum]
    omega
theorem norm_swp (a : List UInt8) (h : a.length % 2 = 0) : norm (wsum (swp a)) = norm (wsum a) / 256 + norm (wsum a) % 256 * 256 := by
  obtain ⟨h1, h2⟩ := wsum_swp a h
  have g1 := norm_le (wsum a)
  have g2 := norm_mod (wsum a)
  have g3 := norm_zero (wsum a)
  exact norm_eq (by omega) (by omega) (by omega)
/-- are all bytes 0? -/
def allz (l : List UInt8) : Bool := l.all fun b => b == 0
theorem wsum_zero : ∀ a : List UInt8, a.length % 2 = 0 → (wsum a = 0 ↔ allz a = true)
  | [], _ => by simp [wsum, allz]
  | [_], h => by simp at h
  | x :: y :: a, h => by
    have h1 := wsum_zero a (by simp at h; omega)
    have ex : (x == 0) = true ↔ x.toNat = 0 := by rw [beq_iff_eq]; exact ⟨fun e => by rw [e]; rfl, fun e => UInt8.toNat_inj.1 e⟩
    have ey : (y == 0) = true ↔ y.toNat = 0 := by rw [beq_iff_eq]; exact ⟨fun e => by rw [e]; rfl, fun e => UInt8.toNat_inj.1 e⟩
    have e : allz (x :: y :: a) = (x == 0 && (y == 0 && allz a)) := rfl
    rw [e, Bool.and_eq_true, Bool.and_eq_true, ex, ey, ← h1, wsum]
    omega
theorem take1 {l : List UInt8} {i : Nat} (h : i < l.length) : (l.drop i).take 1 = [l[i]] := by
  rw [List.drop_eq_getElem_cons h]; rfl
theorem take2 {l : List UInt8} {i : Nat} (h : i + 1 < l.length) : l.take (i + 2) = l.take i ++ [l[i], l[i + 1]] := by
  have e1 := List.take_succ_eq_append_getElem h
  have e2 := List.take_succ_eq_append_getElem (show i < l.length by omega)
  rw [show i + 2 = (i + 1) + 1 from rfl, e1, e2, List.append_assoc]; rfl
theorem bz (b : UInt8) : ((b.toNat : Int) == 0) = (b == 0) := by
  by_cases h : b = 0
  · subst h; rfl
  · have : b.toNat ≠ 0 := fun e => h (UInt8.toNat_inj.1 e)
    rw [beq_eq_false_iff_ne.2 h]; simp; exact this

theorem awake03 : law03_awake = some true := by decide +kernel

theorem checkOrder (a b : List UInt8) : law03_CheckOrder a b = some true := by
  unfold law03_CheckOrder law03_CheckOrderF
  rw [awake03]
  by_cases ha : a.length > 100
  · rw [cond_p (by omega)]; rfl
  rw [cond_n (by omega)]
  by_cases hb : b.length > 100
  · rw [cond_p (by omega)]; rfl
  rw [cond_n (by omega)]
  have ea : ((a.length : Int).tmod 2 == 1) = decide (a.length % 2 = 1) := by
    rw [Int.tmod_eq_emod_of_nonneg (by omega), Bool.eq_iff_iff, beq_iff_eq, decide_eq_true_eq]; omega
  have eb : ((b.length : Int).tmod 2 == 1) = decide (b.length % 2 = 1) := by
    rw [Int.tmod_eq_emod_of_nonneg (by omega), Bool.eq_iff_iff, beq_iff_eq, decide_eq_true_eq]; omega
  rw [ea, eb]
  by_cases ha2 : a.length % 2 = 1
  · rw [cond_p ha2]; rfl
  rw [cond_n ha2]
  by_cases hb2 : b.length % 2 = 1
  · rw [cond_p hb2]; rfl
  rw [cond_n hb2, oreq_p (by omega)]
  have eab : wsum (b ++ a) = wsum (a ++ b) := by rw [wsum_append _ _ (by omega), wsum_append _ _ (by omega), Nat.add_comm]
  have hlen : (a ++ b).length = a.length + b.length := List.length_append
  have hlen2 : (b ++ a).length = b.length + a.length := List.length_append
  refine iter_eq (fun _ => true) (fun (st : Bool × List UInt8 × Int) => ∃ i : Nat, st.2.2 = i ∧ i % 2 = 0 ∧ i ≤ (a ++ b).length ∧ st.2.1 = swp ((a ++ b).take i) ∧ st.1 = allz ((a ++ b).take i)) (fun (st : Bool × List UInt8 × Int) => ((a ++ b).length - st.2.2).toNat) ?_ FUEL _ ⟨0, rfl, rfl, by omega, rfl, rfl⟩ (by rw [FUEL_eq]; simp only; omega)
  rintro ⟨z, t, p⟩ ⟨i, h1, h2, h3, h4, h5⟩
  simp only at h1 h4 h5 ⊢
  subst h1 h4 h5
  unfold law03_CheckOrder_s1
  generalize hc : a ++ b = c at *
  by_cases hi : i < c.length
  · have hi2 : i + 1 < c.length := by omega
    have ht : (c.take i).length % 2 = 0 := by rw [List.length_take]; omega
    have hz : allz (c.take (i + 2)) = (allz (c.take i) && (c[i] == 0 && c[i + 1] == 0)) := by
      rw [take2 hi2]; simp [allz]
    refine .inr ⟨(allz (c.take (i + 2)), swp (c.take (i + 2)), ((i + 2 : Nat) : Int)), ?_, ⟨i + 2, rfl, by omega, by omega, rfl, rfl⟩, by simp only; omega, trivial⟩
    have hs : swp (c.take (i + 2)) = swp (c.take i) ++ [c[i + 1]] ++ [c[i]] := by rw [take2 hi2, swp_snoc _ _ _ ht]; simp
    have hl : (swp (c.take i)).length ≤ 200 := by rw [swp_len, List.length_take]; omega
    have e1 : ((i : Int) + 1).toNat = i + 1 := by omega
    have e2 : ((i : Int) + 2).toNat = i + 2 := by omega
    have e3 : i + 2 - (i + 1) = 1 := by omega
    have e4 : i + 1 - i = 1 := by omega
    rw [hs, hz, cond_p (by omega)]
    simp (disch := omega) only [wI64, oreq_p, e1, e2, e3, e4, Int.toNat_natCast, take1 hi, take1 hi2, List.getElem?_eq_getElem, Option.bind_some, bz, List.length_cons, List.length_nil, List.length_append]
    cases allz (c.take i)
    · simp
    · cases hb0 : (c[i] == 0) <;> simp
  · refine .inl ?_
    obtain rfl : i = c.length := by omega
    rw [cond_n (by omega), sum_eq c (by omega), Option.bind_some, oreq_p (by omega), sum_eq (b ++ a) (by omega), Option.bind_some, eab, List.take_length]
    have g := norm_le (wsum c)
    have gz := norm_zero (wsum c)
    have gs := norm_swp c (by omega)
    rw [sum_eq (swp c) (by rw [swp_len]; omega), Option.bind_some, gs]
    have e5 : (((norm (wsum c) : Nat) : Int) == 0) = allz c := by
      have := wsum_zero c (by omega)
      rw [Bool.eq_iff_iff, ← this, beq_iff_eq]; omega
    have e6 : wI .i64 (wI .i64 (((norm (wsum c) : Nat) : Int).tdiv 256) + wI .i64 ((((norm (wsum c) : Nat) : Int).tmod 256) * 256)) = ((norm (wsum c) / 256 + norm (wsum c) % 256 * 256 : Nat) : Int) := by
      rw [Int.tdiv_eq_ediv_of_nonneg (by omega), Int.tmod_eq_emod_of_nonneg (by omega), wI64 (n := _ / 256) (by omega) (by omega), wI64 (n := _ % 256 * 256) (by omega) (by omega), wI64 (by omega) (by omega)]; omega
    simp only [e5, e6, beq_self_eq_true, cond_true]
    rw [cond_p (by omega), cond_p (by omega)]
    rfl
end Go.Vm.Code
