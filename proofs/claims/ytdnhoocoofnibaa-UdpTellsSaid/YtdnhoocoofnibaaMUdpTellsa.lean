import Derived.Test.YtdnhoocoofnibaaVmLift
import Derived.Test.YtdnhoocoofnibaaCodeU
/- Plain lemmas on the lifted functions' words. -/
namespace Go.Vm
open Go

/-! numbers of the machine -/
theorem wI64 {n : Int} (h1 : -9223372036854775808 ≤ n) (h2 : n < 9223372036854775808) : wI .i64 n = n := by
  show IntKind.wrap .i64 n = n; rw [IntKind.wrap_i64]; omega
theorem wU64 {n : Int} (h1 : 0 ≤ n) (h2 : n < 18446744073709551616) : wI .u64 n = n := by
  show IntKind.wrap .u64 n = n
  simp only [IntKind.wrap, IntKind.bits, IntKind.signed]; simp; omega
theorem wU32 {n : Int} (h1 : 0 ≤ n) (h2 : n < 4294967296) : wI .u32 n = n := by
  show IntKind.wrap .u32 n = n
  simp only [IntKind.wrap, IntKind.bits, IntKind.signed]; simp; omega
theorem wU16 {n : Int} (h1 : 0 ≤ n) (h2 : n < 65536) : wI .u16 n = n := by
  show IntKind.wrap .u16 n = n
  simp only [IntKind.wrap, IntKind.bits, IntKind.signed]; simp; omega
theorem wU8 {n : Int} (h1 : 0 ≤ n) (h2 : n < 256) : wI .u8 n = n := by
  show IntKind.wrap .u8 n = n
  simp only [IntKind.wrap, IntKind.bits, IntKind.signed]; simp; omega
theorem wU64m (n : Int) : wI .u64 n = n % 18446744073709551616 := by
  show IntKind.wrap .u64 n = _
  simp only [IntKind.wrap, IntKind.bits, IntKind.signed]; simp
theorem wU32m (n : Int) : wI .u32 n = n % 4294967296 := by
  show IntKind.wrap .u32 n = _
  simp only [IntKind.wrap, IntKind.bits, IntKind.signed]; simp
theorem wU16m (n : Int) : wI .u16 n = n % 65536 := by
  show IntKind.wrap .u16 n = _
  simp only [IntKind.wrap, IntKind.bits, IntKind.signed]; simp
theorem wU8m (n : Int) : wI .u8 n = n % 256 := by
  show IntKind.wrap .u8 n = _
  simp only [IntKind.wrap, IntKind.bits, IntKind.signed]; simp

theorem bv64 {n : Nat} (h : n < 18446744073709551616) : (BitVec.ofInt 64 (n : Int)).toNat = n := by
  rw [BitVec.toNat_ofInt]; omega
theorem andI64 {a b : Nat} (ha : a < 9223372036854775808) (hb : b < 9223372036854775808) : andI .i64 (a : Int) (b : Int) = ((a &&& b : Nat) : Int) := by
  have h : a &&& b ≤ a := Nat.and_le_left
  show IntKind.wrap .i64 _ = _
  rw [show IntKind.bits .i64 = 64 from rfl, BitVec.toNat_and, bv64 (by omega), bv64 (by omega)]
  exact wI64 (by omega) (by omega)
theorem iorI64 {a b : Nat} (ha : a < 9223372036854775808) (hb : b < 9223372036854775808) : iorI .i64 (a : Int) (b : Int) = ((a ||| b : Nat) : Int) := by
  have h : a ||| b < 2 ^ 63 := Nat.or_lt_two_pow (by omega) (by omega)
  show IntKind.wrap .i64 _ = _
  rw [show IntKind.bits .i64 = 64 from rfl, BitVec.toNat_or, bv64 (by omega), bv64 (by omega)]
  exact wI64 (by omega) (by omega)
theorem andU64 {a b : Nat} (ha : a < 18446744073709551616) (hb : b < 18446744073709551616) : andI .u64 (a : Int) (b : Int) = ((a &&& b : Nat) : Int) := by
  have h : a &&& b ≤ a := Nat.and_le_left
  show IntKind.wrap .u64 _ = _
  rw [show IntKind.bits .u64 = 64 from rfl, BitVec.toNat_and, bv64 (by omega), bv64 (by omega)]
  exact wU64 (by omega) (by omega)
theorem iorU64 {a b : Nat} (ha : a < 18446744073709551616) (hb : b < 18446744073709551616) : iorI .u64 (a : Int) (b : Int) = ((a ||| b : Nat) : Int) := by
  have h : a ||| b < 2 ^ 64 := Nat.or_lt_two_pow (by omega) (by omega)
  show IntKind.wrap .u64 _ = _
  rw [show IntKind.bits .u64 = 64 from rfl, BitVec.toNat_or, bv64 (by omega), bv64 (by omega)]
  exact wU64 (by omega) (by omega)
theorem ixorU64 {a b : Nat} (ha : a < 18446744073709551616) (hb : b < 18446744073709551616) : ixorI .u64 (a : Int) (b : Int) = ((a ^^^ b : Nat) : Int) := by
  have h : a ^^^ b < 2 ^ 64 := Nat.xor_lt_two_pow (by omega) (by omega)
  show IntKind.wrap .u64 _ = _
  rw [show IntKind.bits .u64 = 64 from rfl, BitVec.toNat_xor, bv64 (by omega), bv64 (by omega)]
  exact wU64 (by omega) (by omega)
theorem and_mask (a k : Nat) : a &&& (2 ^ k - 1) = a % 2 ^ k := Nat.and_two_pow_sub_one_eq_mod a k
theorem or_low {a b k : Nat} (hb : b < 2 ^ k) : (a * 2 ^ k) ||| b = a * 2 ^ k + b := by
  rw [Nat.mul_comm]; exact (Nat.two_pow_add_eq_or_of_lt hb a).symm
/-- a number's lowest bits -/
theorem andI64_mask (k : Nat) {a m : Int} (hm : m = 2 ^ k - 1) (hk : k ≤ 62) (h0 : 0 ≤ a) (h1 : a < 9223372036854775808) : andI .i64 a m = a % 2 ^ k := by
  obtain ⟨n, rfl⟩ := Int.eq_ofNat_of_zero_le h0
  have hp : 2 ^ k ≤ 2 ^ 62 := Nat.pow_le_pow_right (by decide) hk
  have hp1 : 1 ≤ 2 ^ k := Nat.one_le_two_pow
  have : m = ((2 ^ k - 1 : Nat) : Int) := by rw [hm]; push_cast [hp1]; rfl
  rw [this, andI64 (by omega) (by omega), and_mask]; push_cast; rfl
theorem andU64_mask (k : Nat) {a m : Int} (hm : m = 2 ^ k - 1) (hk : k ≤ 64) (h0 : 0 ≤ a) (h1 : a < 18446744073709551616) : andI .u64 a m = a % 2 ^ k := by
  obtain ⟨n, rfl⟩ := Int.eq_ofNat_of_zero_le h0
  have hp : 2 ^ k ≤ 2 ^ 64 := Nat.pow_le_pow_right (by decide) hk
  have hp1 : 1 ≤ 2 ^ k := Nat.one_le_two_pow
  have : m = ((2 ^ k - 1 : Nat) : Int) := by rw [hm]; push_cast [hp1]; rfl
  rw [this, andU64 (by omega) (by omega), and_mask]; push_cast; rfl
/-- two numbers whose bits lie apart -/
theorem iorI64_low (k : Nat) {a b : Int} (h0 : 0 ≤ a) (h1 : a * 2 ^ k < 9223372036854775808) (hb0 : 0 ≤ b) (hb : b < 2 ^ k) (hb1 : b < 9223372036854775808) : iorI .i64 (a * 2 ^ k) b = a * 2 ^ k + b := by
  obtain ⟨n, rfl⟩ := Int.eq_ofNat_of_zero_le h0
  obtain ⟨m, rfl⟩ := Int.eq_ofNat_of_zero_le hb0
  have e : ((n : Int) * 2 ^ k) = ((n * 2 ^ k : Nat) : Int) := by push_cast; rfl
  rw [e] at h1 ⊢
  rw [iorI64 (by omega) (by omega), or_low (by exact_mod_cast hb)]; push_cast; rfl
theorem iorU64_low (k : Nat) {a b : Int} (h0 : 0 ≤ a) (h1 : a * 2 ^ k < 18446744073709551616) (hb0 : 0 ≤ b) (hb : b < 2 ^ k) (hb1 : b < 18446744073709551616) : iorI .u64 (a * 2 ^ k) b = a * 2 ^ k + b := by
  obtain ⟨n, rfl⟩ := Int.eq_ofNat_of_zero_le h0
  obtain ⟨m, rfl⟩ := Int.eq_ofNat_of_zero_le hb0
  have e : ((n : Int) * 2 ^ k) = ((n * 2 ^ k : Nat) : Int) := by push_cast; rfl
  rw [e] at h1 ⊢
  rw [iorU64 (by omega) (by omega), or_low (by exact_mod_cast hb)]; push_cast; rfl
theorem fdivP (a : Int) (k : Nat) : a.fdiv (2 ^ k) = a / 2 ^ k := Int.fdiv_eq_ediv_of_nonneg a (Int.le_of_lt (Int.pow_pos (by decide)))

/-! steps -/
theorem oreq_p {α : Type} {p : Prop} [Decidable p] {x : Option α} (h : p) : oreq (decide p) x = x := oreq.mk (decide_eq_true h)
theorem cond_p {α : Type} {p : Prop} [Decidable p] {x y : α} (h : p) : cond (decide p) x y = x := by rw [decide_eq_true h, cond_true]
theorem cond_n {α : Type} {p : Prop} [Decidable p] {x y : α} (h : ¬ p) : cond (decide p) x y = y := by rw [decide_eq_false h, cond_false]
theorem cond_dec {α : Type} {p : Prop} [Decidable p] {x y : α} : cond (decide p) x y = if p then x else y := by
  by_cases h : p <;> simp [h]

/-! loops -/
theorem iter_eq {σ ρ : Type} {step : σ → Option (Sum σ ρ)} (F : σ → ρ) (P : σ → Prop) (μ : σ → Nat)
    (h : ∀ s, P s → step s = some (.inr (F s)) ∨ ∃ s', step s = some (.inl s') ∧ P s' ∧ μ s' < μ s ∧ F s' = F s) : ∀ n s, P s → μ s < n → iter step n s = some (F s)
  | 0, s, hp, hn => by omega
  | n + 1, s, hp, hn => by
    rw [iter]
    rcases h s hp with e | ⟨s', e, hp', hm, hf⟩
    · rw [e]
    · rw [e]; exact hf ▸ iter_eq F P μ h n s' hp' (by omega)
theorem FUEL_eq : FUEL = 18446744073709551616 := rfl
end Go.Vm

namespace Go.Vm.Code
open Go Go.Vm Go.Proofs
set_option maxRecDepth 100000
set_option maxHeartbeats 4000000
set_option linter.unusedVariables false

@[ext] structure udp_Head where
  SPort : Int
  DPort : Int
  deriving DecidableEq
@[ext] structure api_Addr where
  V6 : Bool
  Hi : Int
  Lo : Int
  deriving DecidableEq
@[ext] structure octet_Reader where
  s : List UInt8
  made : Bool
  bad : Bool
  deriving DecidableEq
def cudp_Head (x : udp_Head) : List Value := [.int .i64 x.SPort, .int .i64 x.DPort]
theorem cudp_Head_len (x : udp_Head) : (cudp_Head x).length = 2 := rfl
theorem cudp_Head_flat (x : udp_Head) : flatV.flatL (cudp_Head x) = true := rfl
theorem cudp_Head_one (x : udp_Head) : (cudp_Head x).all oneC = true := rfl
@[simp] theorem cudp_Head_lens (xs : List udp_Head) : (vT cudp_Head xs).length = xs.length * 2 := vT_len cudp_Head_len xs
@[simp] theorem cudp_Head_take (xs : List udp_Head) (n : Nat) : (vT cudp_Head xs).take (n * 2) = vT cudp_Head (xs.take n) := vT_take cudp_Head_len xs n
@[simp] theorem cudp_Head_drop (xs : List udp_Head) (n : Nat) : (vT cudp_Head xs).drop (n * 2) = vT cudp_Head (xs.drop n) := vT_drop cudp_Head_len xs n
def unudp_Head : List Value → Option udp_Head
  | [.int .i64 a1, .int .i64 a2] => some (udp_Head.mk a1 a2)
  | _ => none
theorem unudp_Head_eq (cs : List Value) (x : udp_Head) (h : unudp_Head cs = some x) : cs = cudp_Head x := by
  unfold unudp_Head at h; split at h
  · cases h; rfl
  · cases h
theorem unudp_Head_c (x : udp_Head) : unudp_Head (cudp_Head x) = some x := rfl
def uvudp_Head : Value → Option udp_Head
  | .agg ⟨cs⟩ => unudp_Head cs
  | _ => none
theorem uvudp_Head_eq (v : Value) (x : udp_Head) (h : uvudp_Head v = some x) : v = .agg ⟨cudp_Head x⟩ := by
  unfold uvudp_Head at h; split at h
  · rw [unudp_Head_eq _ _ h]
  · cases h
theorem uvudp_Head_c (x : udp_Head) : uvudp_Head (.agg ⟨cudp_Head x⟩) = some x := rfl
def capi_Addr (x : api_Addr) : List Value := [.bool x.V6, .int .u64 x.Hi, .int .u64 x.Lo]
theorem capi_Addr_len (x : api_Addr) : (capi_Addr x).length = 3 := rfl
theorem capi_Addr_flat (x : api_Addr) : flatV.flatL (capi_Addr x) = true := rfl
theorem capi_Addr_one (x : api_Addr) : (capi_Addr x).all oneC = true := rfl
@[simp] theorem capi_Addr_lens (xs : List api_Addr) : (vT capi_Addr xs).length = xs.length * 3 := vT_len capi_Addr_len xs
@[simp] theorem capi_Addr_take (xs : List api_Addr) (n : Nat) : (vT capi_Addr xs).take (n * 3) = vT capi_Addr (xs.take n) := vT_take capi_Addr_len xs n
@[simp] theorem capi_Addr_drop (xs : List api_Addr) (n : Nat) : (vT capi_Addr xs).drop (n * 3) = vT capi_Addr (xs.drop n) := vT_drop capi_Addr_len xs n
def unapi_Addr : List Value → Option api_Addr
  | [.bool a1, .int .u64 a2, .int .u64 a3] => some (api_Addr.mk a1 a2 a3)
  | _ => none
theorem unapi_Addr_eq (cs : List Value) (x : api_Addr) (h : unapi_Addr cs = some x) : cs = capi_Addr x := by
  unfold unapi_Addr at h; split at h
  · cases h; rfl
  · cases h
theorem unapi_Addr_c (x : api_Addr) : unapi_Addr (capi_Addr x) = some x := rfl
def uvapi_Addr : Value → Option api_Addr
  | .agg ⟨cs⟩ => unapi_Addr cs
  | _ => none
theorem uvapi_Addr_eq (v : Value) (x : api_Addr) (h : uvapi_Addr v = some x) : v = .agg ⟨capi_Addr x⟩ := by
  unfold uvapi_Addr at h; split at h
  · rw [unapi_Addr_eq _ _ h]
  · cases h
theorem uvapi_Addr_c (x : api_Addr) : uvapi_Addr (.agg ⟨capi_Addr x⟩) = some x := rfl
def coctet_Reader (x : octet_Reader) : List Value := [.string ⟨⟨x.s⟩⟩, .bool x.made, .bool x.bad]
theorem coctet_Reader_len (x : octet_Reader) : (coctet_Reader x).length = 3 := rfl
theorem coctet_Reader_flat (x : octet_Reader) : flatV.flatL (coctet_Reader x) = true := rfl
theorem coctet_Reader_one (x : octet_Reader) : (coctet_Reader x).all oneC = true := rfl
@[simp] theorem coctet_Reader_lens (xs : List octet_Reader) : (vT coctet_Reader xs).length = xs.length * 3 := vT_len coctet_Reader_len xs
@[simp] theorem coctet_Reader_take (xs : List octet_Reader) (n : Nat) : (vT coctet_Reader xs).take (n * 3) = vT coctet_Reader (xs.take n) := vT_take coctet_Reader_len xs n
@[simp] theorem coctet_Reader_drop (xs : List octet_Reader) (n : Nat) : (vT coctet_Reader xs).drop (n * 3) = vT coctet_Reader (xs.drop n) := vT_drop coctet_Reader_len xs n
def unoctet_Reader : List Value → Option octet_Reader
  | [.string ⟨⟨a1⟩⟩, .bool a2, .bool a3] => some (octet_Reader.mk a1 a2 a3)
  | _ => none
theorem unoctet_Reader_eq (cs : List Value) (x : octet_Reader) (h : unoctet_Reader cs = some x) : cs = coctet_Reader x := by
  unfold unoctet_Reader at h; split at h
  · cases h; rfl
  · cases h
theorem unoctet_Reader_c (x : octet_Reader) : unoctet_Reader (coctet_Reader x) = some x := rfl
def uvoctet_Reader : Value → Option octet_Reader
  | .agg ⟨cs⟩ => unoctet_Reader cs
  | _ => none
theorem uvoctet_Reader_eq (v : Value) (x : octet_Reader) (h : uvoctet_Reader v = some x) : v = .agg ⟨coctet_Reader x⟩ := by
  unfold uvoctet_Reader at h; split at h
  · rw [unoctet_Reader_eq _ _ h]
  · cases h
theorem uvoctet_Reader_c (x : octet_Reader) : uvoctet_Reader (.agg ⟨coctet_Reader x⟩) = some x := rfl
end Go.Vm.Code

namespace Go.Vm.Code
open Go Go.Vm Go.Proofs
set_option maxRecDepth 100000
set_option maxHeartbeats 4000000
set_option linter.unusedVariables false

/-! cloakroom/check.fold -/
def check_fold_s1 (n1 : Int) : Option (Sum Int Int) :=
  cond (decide (n1 > 65535))
    (
    let t := wI .i64 ((andI .i64 n1 65535) + (n1.fdiv (2 ^ 16)))
    some (.inl t))
    (
    some (.inr (n1)))
def check_foldF (n : Int) : Option Int :=
  iter (fun st => check_fold_s1 st) FUEL n
def rx131 (x : Int) : SRes := ⟨.int .i64 x, [], []⟩
def r131 (g : Int → Option Int) : Dec := dV (asI .i64) fun (y0 : Int) => dEnd (ofG (g y0) rx131)
theorem r131_c {g : Int → Option Int} {y0 : Int} {x : Int} (hx : g y0 = some x) : r131 g [.int .i64 y0] [] = some (rx131 x) := (dV_eq (asI_c _)).trans (ofG_eq hx)
def s131 (g : Int → Option Int) : Summ := ⟨[.v], r131 g⟩
theorem r131_eq {g : Int → Option Int} {y0 : Int} {x : Int} (hx : g y0 = some x) : (s131 g).run [.int .i64 y0] [] = some (rx131 x) := r131_c hx
abbrev sums131 : List (Nat × Summ) := []
def head131_1 (n1 : Int) : VM :=
  ⟨⟨131, 11, [(0, .int .i64 n1)], [.code k131_6, .inLoop k131_6, .inBlock 0, .code k131_10], [], false, none⟩, [], [], 0⟩
theorem loop131_1 (hS : SumsOK Try.prog (aget (sums131))) (res : Int) : ∀ fuel (st : Int) (o : Int), iter (fun st => check_fold_s1 st) fuel st = some o → (o = res) →
    Leads Try.prog 131 0 (head131_1 st) (fun v H _ => Res 0 (rx131 res) v H) := by
  intro fuel st o h hc
  refine iter_leads (head := fun st => head131_1 st) (C := fun o => (o = res)) ?_ fuel st o h hc
  clear h hc o st fuel
  intro n1 o h hc
  replace h : check_fold_s1 n1 = some o := h
  show Leads Try.prog 131 0 (head131_1 n1) (fun v H _ => Res 0 (rx131 res) v H)
  unfold check_fold_s1 at h
  refine ev_ok tab_ok hS true 3000 ?_
  conv => whnf
  refine br.h2 h ?_ ?_ ?_
  · rfl
  · clear h; intro hb h; conv => whnf
    all_goals (cases h; cases hc)
    all_goals exact Res.of [] rfl nw_0 (by decide) js_0 wr_0
  clear h; intro hb h; conv => whnf
  let t : Int := wI .i64 ((andI .i64 n1 65535) + (n1.fdiv (2 ^ 16)))
  cases h; simp only [Sum.elim_inl, head131_1] at hc
  refine Leads.re hc [] rfl ?_ ?_ <;> (repeat' first | exact trivial | refine ⟨⟨_, rfl, rfl⟩, ?_⟩ | refine ⟨⟨_, _, rfl, rfl, .rowF (vI_flat _ _) id⟩, ?_⟩ | refine ⟨⟨_, _, rfl, rfl, .rowF (vS_flat _) id⟩, ?_⟩ | refine ⟨⟨_, _, rfl, rfl, .rowF (vB_flat _) id⟩, ?_⟩ | refine ⟨⟨_, _, rfl, rfl, .rowF (vT_flat (by first | exact cudp_Head_flat | exact capi_Addr_flat | exact coctet_Reader_flat) _) id⟩, ?_⟩ | refine ⟨⟨_, _, rfl, rfl, .tyF (vI_flat _ _)⟩, ?_⟩ | refine ⟨⟨_, _, rfl, rfl, .ty rfl⟩, ?_⟩ | refine ⟨⟨_, _, rfl, rfl, .cells rfl⟩, ?_⟩ | refine ⟨⟨_, _, rfl, rfl, .row rfl id⟩, ?_⟩ | refine ⟨⟨_, _, rfl, rfl, .cr rfl⟩, ?_⟩ | refine ⟨⟨_, _, rfl, rfl, .rc rfl⟩, ?_⟩ | refine ⟨⟨_, _, rfl, rfl, .marks⟩, ?_⟩ | refine ⟨⟨_, _, rfl, rfl, .siter _ _⟩, ?_⟩ | refine ⟨⟨_, _, rfl, rfl, .loop rfl rfl rfl rfl (by repeat' first | exact trivial | refine ⟨rfl, ?_⟩) rfl rfl rfl rfl⟩, ?_⟩)
theorem leads131 (hS : SumsOK Try.prog (aget (sums131))) (n : Int) (res : Int) (h : check_foldF n = some res) :
    Leads Try.prog 131 0 ⟨⟨131, 11, [(0, .int .i64 n)], [.code k131_12], [], false, none⟩, [], [], 0⟩ (fun v H _ => Res 0 (rx131 res) v H) := by
  unfold check_foldF at h
  refine ev_ok tab_ok hS true 3000 ?_
  conv => whnf
  have hl := loop131_1 hS res _ _ _ h rfl; simp only [head131_1] at hl
  refine Leads.re hl [] rfl ?_ ?_ <;> (repeat' first | exact trivial | refine ⟨⟨_, rfl, rfl⟩, ?_⟩ | refine ⟨⟨_, _, rfl, rfl, .rowF (vI_flat _ _) id⟩, ?_⟩ | refine ⟨⟨_, _, rfl, rfl, .rowF (vS_flat _) id⟩, ?_⟩ | refine ⟨⟨_, _, rfl, rfl, .rowF (vB_flat _) id⟩, ?_⟩ | refine ⟨⟨_, _, rfl, rfl, .rowF (vT_flat (by first | exact cudp_Head_flat | exact capi_Addr_flat | exact coctet_Reader_flat) _) id⟩, ?_⟩ | refine ⟨⟨_, _, rfl, rfl, .tyF (vI_flat _ _)⟩, ?_⟩ | refine ⟨⟨_, _, rfl, rfl, .ty rfl⟩, ?_⟩ | refine ⟨⟨_, _, rfl, rfl, .cells rfl⟩, ?_⟩ | refine ⟨⟨_, _, rfl, rfl, .row rfl id⟩, ?_⟩ | refine ⟨⟨_, _, rfl, rfl, .cr rfl⟩, ?_⟩ | refine ⟨⟨_, _, rfl, rfl, .rc rfl⟩, ?_⟩ | refine ⟨⟨_, _, rfl, rfl, .marks⟩, ?_⟩ | refine ⟨⟨_, _, rfl, rfl, .siter _ _⟩, ?_⟩ | refine ⟨⟨_, _, rfl, rfl, .loop rfl rfl rfl rfl (by repeat' first | exact trivial | refine ⟨rfl, ?_⟩) rfl rfl rfl rfl⟩, ?_⟩)
theorem ok131 (hS : SumsOK Try.prog (aget (sums131))) : SumOK Try.prog 131 (s131 (check_foldF)) := by
  refine SumOK.of_leads tab_ok (fun ar os r ha hr => ?_) ⟨Try.f131, rfl, by decide, rfl⟩
  replace hr : r131 (check_foldF) ar (conts os) = some r := hr
  unfold r131 at hr
  generalize hc : conts os = C at hr
  have hq := dV.elim hr; clear hr; obtain ⟨v0, l1, y0, rfl, e0, hr⟩ := hq; obtain rfl := asI_eq _ _ _ e0
  have hq := dEnd.elim hr; clear hr; obtain ⟨rfl, rfl, hr⟩ := hq
  have hq := ofG.elim hr; clear hr; obtain ⟨x, h, rfl⟩ := hq
  obtain rfl := kinds_nil hc
  exact ⟨_, rfl, leads131 hS _ x h⟩
def check_fold : Int → Option Int := check_foldF
theorem lift131 : SumOK Try.prog 131 (s131 check_fold) := ok131 (SumsOK.of_tab trivial)
end Go.Vm.Code

namespace Go.Vm.Code
open Go Go.Vm Go.Proofs
set_option maxRecDepth 100000
set_option maxHeartbeats 4000000
set_option linter.unusedVariables false

/-! cloakroom/check.Sum -/
def check_Sum_s1 (check_fold : Int → Option Int) (s : List UInt8) (xat : Int) (n : Int) : Option (Sum (Int × Int) Int) :=
  cond (decide (xat < (s.length : Int)))
    (
    oreq (decide (0 ≤ xat)) <|
    (s[xat.toNat]?).bind fun (b : UInt8) =>
    let t := wI .i64 ((wI .i64 (b.toNat : Int)) * 2 ^ 8)
    let t1 := decide ((wI .i64 (xat + 1)) < (s.length : Int))
    cond (t1)
      (
      oreq (decide (0 ≤ (wI .i64 (xat + 1)))) <|
      (s[(wI .i64 (xat + 1)).toNat]?).bind fun (b1 : UInt8) =>
      let t2 := wI .i64 (n + (iorI .i64 t (wI .i64 (b1.toNat : Int))))
      (check_fold t2).bind fun f =>
      some (.inl (wI .i64 (xat + 2), f)))
      (
      (check_fold (wI .i64 (n + t))).bind fun f1 =>
      some (.inl (wI .i64 (xat + 2), f1))))
    (
    some (.inr (n)))
def check_SumF (check_fold : Int → Option Int) (s : List UInt8) : Option Int :=
  iter (fun st => check_Sum_s1 check_fold s st.1 st.2) FUEL (0, 0)
def rx113 (x : Int) : SRes := ⟨.int .i64 x, [], []⟩
def r113 (g : (List UInt8) → Option Int) : Dec := dV asS fun (y0 : List UInt8) => dEnd (ofG (g y0) rx113)
theorem r113_c {g : (List UInt8) → Option Int} {y0 : List UInt8} {x : Int} (hx : g y0 = some x) : r113 g [.string ⟨⟨y0⟩⟩] [] = some (rx113 x) := (dV_eq (asS_c)).trans (ofG_eq hx)
def s113 (g : (List UInt8) → Option Int) : Summ := ⟨[.v], r113 g⟩
theorem r113_eq {g : (List UInt8) → Option Int} {y0 : List UInt8} {x : Int} (hx : g y0 = some x) : (s113 g).run [.string ⟨⟨y0⟩⟩] [] = some (rx113 x) := r113_c hx
abbrev sums113 (check_fold : Int → Option Int) : List (Nat × Summ) := [(131, s131 check_fold)]
def head113_1 (s : List UInt8) (xat : Int) (n : Int) : VM :=
  ⟨⟨133, 32, [(0, .func (.yield 3) #[] #[]), (1, .pointer (some ⟨1, 0, none⟩)), (3, .int .i64 xat)], [.code k133_17, .inLoop k133_17, .inBlock 0], [], false, none⟩, [⟨113, 13, [(3, .pointer (some ⟨0, 0, none⟩))], [.inRangeFunc 3, .inBlock 0, .code k113_10], [2], false, none⟩], [(0, .cells [.int .i64 n]), (1, .cells [.string ⟨⟨s⟩⟩]), (2, .marks), (3, .loop ⟨.ready, none, 113, 13, [(3, .pointer (some ⟨0, 0, none⟩))], [7], k113_3, k113_5, 2⟩)], 4⟩
theorem loop113_1 (check_fold : Int → Option Int) (hS : SumsOK Try.prog (aget (sums113 check_fold))) (s : List UInt8) (res : Int) : ∀ fuel (st : Int × Int) (o : Int), iter (fun st => check_Sum_s1 check_fold s st.1 st.2) fuel st = some o → (o = res) →
    Leads Try.prog 113 0 (head113_1 s st.1 st.2) (fun v H _ => Res 0 (rx113 res) v H) := by
  intro fuel st o h hc
  refine iter_leads (head := fun st => head113_1 s st.1 st.2) (C := fun o => (o = res)) ?_ fuel st o h hc
  clear h hc o st fuel
  intro st o h hc
  obtain ⟨xat, n⟩ := st
  replace h : check_Sum_s1 check_fold s xat n = some o := h
  show Leads Try.prog 113 0 (head113_1 s xat n) (fun v H _ => Res 0 (rx113 res) v H)
  unfold check_Sum_s1 at h
  refine ev_ok tab_ok hS true 3000 ?_
  conv => whnf
  refine br.h2 h ?_ ?_ ?_
  · rfl
  · clear h; intro hb h; conv => whnf
    all_goals (cases h; cases hc)
    all_goals exact Res.of [] rfl nw_0 (by decide) js_0 wr_0
  clear h; intro hb h; conv => whnf
  replace h := oreq.elim h; have hb := h.1; replace h := h.2
  first | (refine req.intro hb ?_; conv => whnf) | skip
  obtain ⟨b, hy, h2⟩ := obind.elim h; clear h; have h := h2; clear h2
  refine rdS.intro hy ?_
  conv => whnf
  let t : Int := wI .i64 ((wI .i64 (b.toNat : Int)) * 2 ^ 8)
  let t1 : Bool := decide ((wI .i64 (xat + 1)) < (s.length : Int))
  refine br.h2 h ?_ ?_ ?_
  · rfl
  · clear h; intro hb h; conv => whnf
    obtain ⟨f1, hy, h2⟩ := obind.elim h; clear h; have h := h2; clear h2
    refine sumK.introF [] (sumRun_of (aqs := [.int .i64 (wI .i64 (n + t))]) (ws := []) (n := 0) (m := 0) (t' := 4) (ra_cons rfl rfl ra_nil) rfl (by rfl) (r131_eq hy) rfl rfl rfl rfl wb_nil an_nil rfl) ?_
    conv => whnf
    cases h; simp only [Sum.elim_inl, head113_1] at hc
    refine Leads.re hc [(0, 0), (1, 1), (2, 2), (3, 3)] rfl ?_ ?_ (hu := by repeat' first | exact trivial | refine ⟨⟨rfl, rfl, rfl, rfl, rfl, ?_, rfl, rfl⟩, ?_⟩ | refine ⟨⟨_, rfl, rfl⟩, ?_⟩) <;> (repeat' first | exact trivial | refine ⟨⟨_, rfl, rfl⟩, ?_⟩ | refine ⟨⟨_, _, rfl, rfl, .rowF (vI_flat _ _) id⟩, ?_⟩ | refine ⟨⟨_, _, rfl, rfl, .rowF (vS_flat _) id⟩, ?_⟩ | refine ⟨⟨_, _, rfl, rfl, .rowF (vB_flat _) id⟩, ?_⟩ | refine ⟨⟨_, _, rfl, rfl, .rowF (vT_flat (by first | exact cudp_Head_flat | exact capi_Addr_flat | exact coctet_Reader_flat) _) id⟩, ?_⟩ | refine ⟨⟨_, _, rfl, rfl, .tyF (vI_flat _ _)⟩, ?_⟩ | refine ⟨⟨_, _, rfl, rfl, .ty rfl⟩, ?_⟩ | refine ⟨⟨_, _, rfl, rfl, .cells rfl⟩, ?_⟩ | refine ⟨⟨_, _, rfl, rfl, .row rfl id⟩, ?_⟩ | refine ⟨⟨_, _, rfl, rfl, .cr rfl⟩, ?_⟩ | refine ⟨⟨_, _, rfl, rfl, .rc rfl⟩, ?_⟩ | refine ⟨⟨_, _, rfl, rfl, .marks⟩, ?_⟩ | refine ⟨⟨_, _, rfl, rfl, .siter _ _⟩, ?_⟩ | refine ⟨⟨_, _, rfl, rfl, .loop rfl rfl rfl rfl (by repeat' first | exact trivial | refine ⟨rfl, ?_⟩) rfl rfl rfl rfl⟩, ?_⟩)
  clear h; intro hb h; conv => whnf
  replace h := oreq.elim h; have hb := h.1; replace h := h.2
  first | (refine req.intro hb ?_; conv => whnf) | skip
  obtain ⟨b1, hy, h2⟩ := obind.elim h; clear h; have h := h2; clear h2
  refine rdS.intro hy ?_
  conv => whnf
  let t2 : Int := wI .i64 (n + (iorI .i64 t (wI .i64 (b1.toNat : Int))))
  obtain ⟨f, hy, h2⟩ := obind.elim h; clear h; have h := h2; clear h2
  refine sumK.introF [] (sumRun_of (aqs := [.int .i64 t2]) (ws := []) (n := 0) (m := 0) (t' := 4) (ra_cons rfl rfl ra_nil) rfl (by rfl) (r131_eq hy) rfl rfl rfl rfl wb_nil an_nil rfl) ?_
  conv => whnf
  cases h; simp only [Sum.elim_inl, head113_1] at hc
  refine Leads.re hc [(0, 0), (1, 1), (2, 2), (3, 3)] rfl ?_ ?_ (hu := by repeat' first | exact trivial | refine ⟨⟨rfl, rfl, rfl, rfl, rfl, ?_, rfl, rfl⟩, ?_⟩ | refine ⟨⟨_, rfl, rfl⟩, ?_⟩) <;> (repeat' first | exact trivial | refine ⟨⟨_, rfl, rfl⟩, ?_⟩ | refine ⟨⟨_, _, rfl, rfl, .rowF (vI_flat _ _) id⟩, ?_⟩ | refine ⟨⟨_, _, rfl, rfl, .rowF (vS_flat _) id⟩, ?_⟩ | refine ⟨⟨_, _, rfl, rfl, .rowF (vB_flat _) id⟩, ?_⟩ | refine ⟨⟨_, _, rfl, rfl, .rowF (vT_flat (by first | exact cudp_Head_flat | exact capi_Addr_flat | exact coctet_Reader_flat) _) id⟩, ?_⟩ | refine ⟨⟨_, _, rfl, rfl, .tyF (vI_flat _ _)⟩, ?_⟩ | refine ⟨⟨_, _, rfl, rfl, .ty rfl⟩, ?_⟩ | refine ⟨⟨_, _, rfl, rfl, .cells rfl⟩, ?_⟩ | refine ⟨⟨_, _, rfl, rfl, .row rfl id⟩, ?_⟩ | refine ⟨⟨_, _, rfl, rfl, .cr rfl⟩, ?_⟩ | refine ⟨⟨_, _, rfl, rfl, .rc rfl⟩, ?_⟩ | refine ⟨⟨_, _, rfl, rfl, .marks⟩, ?_⟩ | refine ⟨⟨_, _, rfl, rfl, .siter _ _⟩, ?_⟩ | refine ⟨⟨_, _, rfl, rfl, .loop rfl rfl rfl rfl (by repeat' first | exact trivial | refine ⟨rfl, ?_⟩) rfl rfl rfl rfl⟩, ?_⟩)
theorem leads113 (check_fold : Int → Option Int) (hS : SumsOK Try.prog (aget (sums113 check_fold))) (s : List UInt8) (res : Int) (h : check_SumF check_fold s = some res) :
    Leads Try.prog 113 0 ⟨⟨113, 13, [(0, .string ⟨⟨s⟩⟩)], [.code k113_13], [], false, none⟩, [], [], 0⟩ (fun v H _ => Res 0 (rx113 res) v H) := by
  unfold check_SumF at h
  refine ev_ok tab_ok hS true 3000 ?_
  conv => whnf
  have hl := loop113_1 check_fold hS _ res _ _ _ h rfl; simp only [head113_1] at hl
  refine Leads.re hl [(0, 0), (1, 1), (2, 2), (3, 3)] rfl ?_ ?_ (hu := by repeat' first | exact trivial | refine ⟨⟨rfl, rfl, rfl, rfl, rfl, ?_, rfl, rfl⟩, ?_⟩ | refine ⟨⟨_, rfl, rfl⟩, ?_⟩) <;> (repeat' first | exact trivial | refine ⟨⟨_, rfl, rfl⟩, ?_⟩ | refine ⟨⟨_, _, rfl, rfl, .rowF (vI_flat _ _) id⟩, ?_⟩ | refine ⟨⟨_, _, rfl, rfl, .rowF (vS_flat _) id⟩, ?_⟩ | refine ⟨⟨_, _, rfl, rfl, .rowF (vB_flat _) id⟩, ?_⟩ | refine ⟨⟨_, _, rfl, rfl, .rowF (vT_flat (by first | exact cudp_Head_flat | exact capi_Addr_flat | exact coctet_Reader_flat) _) id⟩, ?_⟩ | refine ⟨⟨_, _, rfl, rfl, .tyF (vI_flat _ _)⟩, ?_⟩ | refine ⟨⟨_, _, rfl, rfl, .ty rfl⟩, ?_⟩ | refine ⟨⟨_, _, rfl, rfl, .cells rfl⟩, ?_⟩ | refine ⟨⟨_, _, rfl, rfl, .row rfl id⟩, ?_⟩ | refine ⟨⟨_, _, rfl, rfl, .cr rfl⟩, ?_⟩ | refine ⟨⟨_, _, rfl, rfl, .rc rfl⟩, ?_⟩ | refine ⟨⟨_, _, rfl, rfl, .marks⟩, ?_⟩ | refine ⟨⟨_, _, rfl, rfl, .siter _ _⟩, ?_⟩ | refine ⟨⟨_, _, rfl, rfl, .loop rfl rfl rfl rfl (by repeat' first | exact trivial | refine ⟨rfl, ?_⟩) rfl rfl rfl rfl⟩, ?_⟩)
theorem ok113 (check_fold : Int → Option Int) (hS : SumsOK Try.prog (aget (sums113 check_fold))) : SumOK Try.prog 113 (s113 (check_SumF check_fold)) := by
  refine SumOK.of_leads tab_ok (fun ar os r ha hr => ?_) ⟨Try.f113, rfl, by decide, rfl⟩
  replace hr : r113 (check_SumF check_fold) ar (conts os) = some r := hr
  unfold r113 at hr
  generalize hc : conts os = C at hr
  have hq := dV.elim hr; clear hr; obtain ⟨v0, l1, y0, rfl, e0, hr⟩ := hq; obtain rfl := asS_eq _ _ e0
  have hq := dEnd.elim hr; clear hr; obtain ⟨rfl, rfl, hr⟩ := hq
  have hq := ofG.elim hr; clear hr; obtain ⟨x, h, rfl⟩ := hq
  obtain rfl := kinds_nil hc
  exact ⟨_, rfl, leads113 check_fold hS _ x h⟩
def check_Sum : (List UInt8) → Option Int := check_SumF check_fold
theorem lift113 : SumOK Try.prog 113 (s113 check_Sum) := ok113 check_fold (SumsOK.of_tab ⟨lift131, trivial⟩)
end Go.Vm.Code

/- The sums of chapter 3, in plain words. -/

namespace Go.Vm.Code
open Go Go.Vm

/-- words of two bytes, added -/
def wsum : List UInt8 → Nat
  | [] => 0
  | [b] => b.toNat * 256
  | b :: c :: l => b.toNat * 256 + c.toNat + wsum l
/-- a sum brought to 16 bits -/
def norm (n : Nat) : Nat := if n = 0 then 0 else (n - 1) % 65535 + 1
theorem norm_eq {n r : Nat} (h1 : r ≤ 65535) (h2 : r % 65535 = n % 65535) (h3 : r = 0 ↔ n = 0) : norm n = r := by unfold norm; split <;> omega
theorem norm_le (n : Nat) : norm n ≤ 65535 := by unfold norm; split <;> omega
theorem norm_mod (n : Nat) : norm n % 65535 = n % 65535 := by unfold norm; split <;> omega
theorem norm_zero (n : Nat) : norm n = 0 ↔ n = 0 := by unfold norm; split <;> omega
theorem norm_same {n : Nat} (h : n ≤ 65535) : norm n = n := norm_eq h rfl Iff.rfl
theorem norm_add (a b : Nat) : norm (norm a + b) = norm (a + b) :=
  (norm_eq (norm_le _) (by have h1 := norm_mod a; have h2 := norm_mod (norm a + b); omega) (by have h1 := norm_zero a; have h2 := norm_zero (norm a + b); omega)).symm

theorem fold_eq {n : Int} (h0 : 0 ≤ n) (h1 : n < 2 ^ 62) : check_fold n = some ((norm n.toNat : Nat) : Int) := by
  unfold check_fold check_foldF
  refine iter_eq (fun n => ((norm n.toNat : Nat) : Int)) (fun n => 0 ≤ n ∧ n < 2 ^ 62) (fun n => n.toNat) ?_ FUEL _ ⟨h0, h1⟩ (by rw [FUEL_eq]; omega)
  intro s ⟨a, b⟩
  unfold check_fold_s1
  by_cases hs : s > 65535
  · refine .inr ⟨s % 65536 + s / 65536, ?_, ⟨by omega, by omega⟩, by omega, ?_⟩
    · rw [cond_p hs, andI64_mask (m := 65535) 16 (by decide) (by decide) a (by omega), fdivP, wI64 (by omega) (by omega)]; rfl
    · have : norm (s % 65536 + s / 65536).toNat = norm s.toNat :=
        (norm_eq (norm_le _) (by have := norm_mod (s % 65536 + s / 65536).toNat; omega) (by have := norm_zero (s % 65536 + s / 65536).toNat; omega)).symm
      rw [this]
  · refine .inl ?_
    rw [cond_n hs]
    have := norm_same (n := s.toNat) (by omega)
    simp only [this]
    rw [Int.toNat_of_nonneg a]

theorem wsum_two {s : List UInt8} {i : Nat} (h : i + 1 < s.length) : wsum (s.drop i) = s[i].toNat * 256 + s[i + 1].toNat + wsum (s.drop (i + 2)) := by
  rw [List.drop_eq_getElem_cons (by omega : i < s.length), List.drop_eq_getElem_cons h]; rfl
theorem wsum_one {s : List UInt8} {i : Nat} (h : i + 1 = s.length) : wsum (s.drop i) = s[i].toNat * 256 := by
  rw [List.drop_eq_getElem_cons (by omega : i < s.length), List.drop_eq_nil_of_le (by omega)]; rfl
theorem wsum_none {s : List UInt8} {i : Nat} (h : s.length ≤ i) : wsum (s.drop i) = 0 := by
  rw [List.drop_eq_nil_of_le h]; rfl

theorem sum_eq (s : List UInt8) (h : s.length < 2 ^ 61) : check_Sum s = some ((norm (wsum s) : Nat) : Int) := by
  unfold check_Sum check_SumF
  have key := iter_eq (step := fun (st : Int × Int) => check_Sum_s1 check_fold s st.1 st.2) (fun (st : Int × Int) => ((norm (st.2.toNat + wsum (s.drop st.1.toNat)) : Nat) : Int)) (fun (st : Int × Int) => 0 ≤ st.1 ∧ st.1 ≤ s.length + 1 ∧ 0 ≤ st.2 ∧ st.2 ≤ 65535) (fun (st : Int × Int) => (s.length + 2 - st.1).toNat) ?_ FUEL (0, 0) ⟨by simp, by simp; omega, by simp, by simp⟩ (by rw [FUEL_eq]; simp only; omega)
  · rw [key]; simp
  rintro ⟨p, n⟩ ⟨h1, h2, h3, h4⟩
  simp only at h1 h2 h3 h4 ⊢
  obtain ⟨i, rfl⟩ := Int.eq_ofNat_of_zero_le h1
  obtain ⟨m, rfl⟩ := Int.eq_ofNat_of_zero_le h3
  unfold check_Sum_s1
  by_cases hp : i < s.length
  · by_cases hq : i + 1 < s.length
    · have b1 := s[i].toNat_lt
      have b2 := s[i + 1].toNat_lt
      refine .inr ⟨(((i + 2 : Nat) : Int), ((norm (m + (s[i].toNat * 256 + s[i + 1].toNat)) : Nat) : Int)), ?_, ⟨by simp only; omega, by simp only; omega, by simp only; omega, by simp only; have := norm_le (m + (s[i].toNat * 256 + s[i + 1].toNat)); omega⟩, by simp only; omega, ?_⟩
      · simp (disch := omega) only [wI64, oreq_p, cond_p]
        have e : ((i : Int) + 1).toNat = i + 1 := by omega
        rw [e]
        simp (disch := omega) only [Int.toNat_natCast, List.getElem?_eq_getElem, Option.bind_some, iorI64_low, wI64, fold_eq]
        congr 3 <;> omega
      · simp only [Int.toNat_natCast]
        rw [norm_add, wsum_two hq, Nat.add_assoc]
    · have b1 := s[i].toNat_lt
      refine .inr ⟨(((i + 2 : Nat) : Int), ((norm (m + s[i].toNat * 256) : Nat) : Int)), ?_, ⟨by simp only; omega, by simp only; omega, by simp only; omega, by simp only; have := norm_le (m + s[i].toNat * 256); omega⟩, by simp only; omega, ?_⟩
      · simp (disch := omega) only [wI64, oreq_p, cond_p, cond_n, Int.toNat_natCast, List.getElem?_eq_getElem, Option.bind_some, fold_eq]
        congr 3 <;> omega
      · simp only [Int.toNat_natCast]
        rw [norm_add, wsum_none (i := i + 2) (by omega), Nat.add_zero, wsum_one (i := i) (by omega)]
  · refine .inl ?_
    simp (disch := omega) only [cond_n]
    simp only [Int.toNat_natCast]
    rw [wsum_none (by omega), Nat.add_zero, norm_same (by omega)]
theorem wsum_append : ∀ (a b : List UInt8), a.length % 2 = 0 → wsum (a ++ b) = wsum a + wsum b
  | [], b, _ => by simp [wsum]
  | [_], b, h => by simp at h
  | x :: y :: a, b, h => by
    have := wsum_append a b (by simp at h; omega)
    simp only [List.cons_append, wsum, this]; omega
/-- are all bytes 0? -/
def allz (l : List UInt8) : Bool := l.all fun b => b == 0
theorem wsum_zero : ∀ a : List UInt8, a.length % 2 = 0 → (wsum a = 0 ↔ allz a = true)
  | [], _ => by simp [wsum, allz]
  | [_], h => by simp at h
  | x :: y :: a, h => by
    have h1 := wsum_zero a (by simp at h; omega)
    have ex : (x == 0) = true ↔ x.toNat = 0 := by rw [beq_iff_eq]; exact ⟨fun e => by rw [e]; rfl, fun e => UInt8.toNat_inj.1 e⟩
    have ey : (y == 0) = true ↔ y.toNat = 0 := by rw [beq_iff_eq]; exact ⟨fun e => by rw [e]; rfl, fun e => UInt8.toNat_inj.1 e⟩
    have e : allz (x :: y :: a) = (x == 0 && (y == 0 && allz a)) := rfl
    rw [e, Bool.and_eq_true, Bool.and_eq_true, ex, ey, ← h1, wsum]
    omega
theorem take1 {l : List UInt8} {i : Nat} (h : i < l.length) : (l.drop i).take 1 = [l[i]] := by
  rw [List.drop_eq_getElem_cons h]; rfl
theorem take2 {l : List UInt8} {i : Nat} (h : i + 1 < l.length) : l.take (i + 2) = l.take i ++ [l[i], l[i + 1]] := by
  have e1 := List.take_succ_eq_append_getElem h
  have e2 := List.take_succ_eq_append_getElem (show i < l.length by omega)
  rw [show i + 2 = (i + 1) + 1 from rfl, e1, e2, List.append_assoc]; rfl
theorem bz (b : UInt8) : ((b.toNat : Int) == 0) = (b == 0) := by
  by_cases h : b = 0
  · subst h; rfl
  · have : b.toNat ≠ 0 := fun e => h (UInt8.toNat_inj.1 e)
    rw [beq_eq_false_iff_ne.2 h]; simp; exact this

end Go.Vm.Code

/- Numbers as bytes, the highest one first: plain Lean, no program. -/
namespace Go.Vm
open Go

/-- the lowest bytes of a number, the highest one first -/
def be (n : Nat) : Nat → List UInt8
  | 0 => []
  | r + 1 => UInt8.ofNat (n / 256 ^ r) :: be n r
/-- the number of bytes -/
def valL (l : List UInt8) : Nat := l.foldl (fun n b => n * 256 + b.toNat) 0

@[simp] theorem be_len (n : Nat) : ∀ k, (be n k).length = k
  | 0 => rfl
  | k + 1 => by simp [be, be_len n k]
theorem be_snoc (n : Nat) : ∀ k, be n (k + 1) = be (n / 256) k ++ [UInt8.ofNat n]
  | 0 => by simp [be]
  | k + 1 => by
    rw [be, be_snoc n k, be, Nat.div_div_eq_div_mul, Nat.pow_succ, Nat.mul_comm 256]; rfl
theorem be_mod (n : Nat) : ∀ k, be (n % 256 ^ k) k = be n k
  | 0 => rfl
  | k + 1 => by
    rw [be_snoc, be_snoc, Nat.pow_succ, Nat.mul_comm, Nat.mod_mul_right_div_self, be_mod (n / 256) k]
    congr 2
    apply UInt8.toNat_inj.1
    simp only [UInt8.toNat_ofNat']
    rw [Nat.mod_mul_right_mod]
theorem val_foldl (l : List UInt8) : ∀ n : Nat, l.foldl (fun n b => n * 256 + b.toNat) n = n * 256 ^ l.length + valL l := by
  induction l with
  | nil => intro n; simp [valL]
  | cons b l ih =>
    intro n
    rw [valL, List.foldl_cons, ih, List.foldl_cons, ih, List.length_cons, Nat.pow_succ]
    rw [Nat.zero_mul, Nat.zero_add, Nat.add_mul, Nat.mul_assoc, Nat.mul_comm (256 ^ _) 256, Nat.add_assoc]
@[simp] theorem val_nil : valL [] = 0 := rfl
theorem val_cons (b : UInt8) (l : List UInt8) : valL (b :: l) = b.toNat * 256 ^ l.length + valL l := by
  rw [valL, List.foldl_cons, val_foldl]; simp
theorem val_append (l m : List UInt8) : valL (l ++ m) = valL l * 256 ^ m.length + valL m := by
  rw [valL, List.foldl_append, val_foldl]; rfl
theorem val_snoc (l : List UInt8) (b : UInt8) : valL (l ++ [b]) = valL l * 256 + b.toNat := by
  rw [val_append]; simp [val_cons]
theorem val_lt : ∀ l : List UInt8, valL l < 256 ^ l.length
  | [] => by simp
  | b :: l => by
    have h := val_lt l
    have hb := b.toNat_lt
    rw [val_cons, List.length_cons, Nat.pow_succ]
    have : b.toNat * 256 ^ l.length + 256 ^ l.length ≤ 256 * 256 ^ l.length := by
      rw [← Nat.succ_mul]; exact Nat.mul_le_mul_right _ (by omega)
    rw [Nat.mul_comm (256 ^ l.length)]; omega
theorem val_be (n : Nat) : ∀ k, valL (be n k) = n % 256 ^ k
  | 0 => by simp [be, Nat.mod_one]
  | k + 1 => by
    have e : n % 256 ^ (k + 1) = n % 256 + 256 * (n / 256 % 256 ^ k) := by rw [Nat.pow_succ', Nat.mod_mul]
    rw [be_snoc, val_snoc, val_be (n / 256) k, UInt8.toNat_ofNat', e]
    generalize n / 256 % 256 ^ k = x
    omega
theorem val_be_lt {n k : Nat} (h : n < 256 ^ k) : valL (be n k) = n := by rw [val_be, Nat.mod_eq_of_lt h]
theorem be_val : ∀ l : List UInt8, be (valL l) l.length = l
  | [] => rfl
  | b :: l => by
    have h := val_lt l
    rw [List.length_cons, be]
    have e1 : valL (b :: l) / 256 ^ l.length = b.toNat := by
      rw [val_cons, Nat.mul_comm, Nat.mul_add_div (Nat.pow_pos (by decide)), Nat.div_eq_of_lt h, Nat.add_zero]
    have e2 : be (valL (b :: l)) l.length = be (valL l) l.length := by
      rw [← be_mod (valL (b :: l)), val_cons, Nat.mul_add_mod', be_mod]
    rw [e1, e2, be_val l]
    simp
theorem be_inj {n m k : Nat} (hn : n < 256 ^ k) (hm : m < 256 ^ k) (h : be n k = be m k) : n = m := by
  rw [← val_be_lt hn, ← val_be_lt hm, h]
theorem be_val' {l : List UInt8} {k : Nat} (h : l.length = k) : be (valL l) k = l := by subst h; exact be_val l
theorem be_of {l : List UInt8} {n k : Nat} (h : l.length = k) (hv : valL l = n) : be n k = l := by subst hv; exact be_val' h
theorem val_take_lt {l : List UInt8} {k : Nat} (n : Nat) (h : 256 ^ k ≤ n) : valL (l.take k) < n := by
  have h1 := val_lt (l.take k)
  have h2 : (l.take k).length ≤ k := List.length_take_le _ _
  exact Nat.lt_of_lt_of_le h1 (Nat.le_trans (Nat.pow_le_pow_right (by decide) h2) h)
theorem be_split (n : Nat) (j : Nat) : ∀ k, be n (j + k) = be (n / 256 ^ k) j ++ be n k
  | 0 => by simp [be]
  | k + 1 => by
    rw [show j + (k + 1) = (j + k) + 1 from rfl, be_snoc, be_split (n / 256) j k, be_snoc n k, Nat.div_div_eq_div_mul, Nat.pow_succ, Nat.mul_comm (256 ^ k), List.append_assoc]
end Go.Vm

namespace Go.Vm.Code
open Go Go.Vm Go.Proofs
set_option maxRecDepth 100000
set_option maxHeartbeats 4000000
set_option linter.unusedVariables false

/-! cloakroom/octet.Put -/
def octet_Put_s1 (n : Int) (k : Int) (t17 : Int) (b : List Int) : Option (Sum (Int × (List Int)) (List UInt8)) :=
  cond (decide (t17 < (k.toNat : Int)))
    (
    let t := wI .i64 (8 * (wI .i64 ((wI .i64 (k - 1)) - t17)))
    oreq (decide (0 ≤ t)) <|
    oreq (decide ((0 : Int) ≤ t17 ∧ t17 < (k.toNat : Int))) <|
    oreq (decide (t17.toNat < b.length)) <|
    let row := b.set t17.toNat (wI .u8 (n.fdiv (2 ^ (min t.toNat 64))))
    some (.inl (wI .i64 (t17 + 1), row)))
    (
    oreq (decide (k.toNat ≤ b.length)) <|
    some (.inr (iB (b.take k.toNat))))
def octet_PutF (n : Int) (k : Int) : Option (List UInt8) :=
  cond (decide (k < 1))
    (
    some ([]))
    (
    cond (decide (k > 8))
      (
      some ([]))
      (
      oreq (decide (0 ≤ k ∧ k ≤ k ∧ k < 2 ^ 63 ∧ (1 : Int) * k ≤ 2 ^ 48)) <|
      iter (fun st => octet_Put_s1 n k st.1 st.2) FUEL (0, List.replicate k.toNat (0))))
def rx62 (x : List UInt8) : SRes := ⟨.string ⟨⟨x⟩⟩, [], []⟩
def r62 (g : Int → Int → Option (List UInt8)) : Dec := dV (asI .u64) fun (y0 : Int) => dV (asI .i64) fun (y1 : Int) => dEnd (ofG (g y0 y1) rx62)
theorem r62_c {g : Int → Int → Option (List UInt8)} {y0 : Int} {y1 : Int} {x : List UInt8} (hx : g y0 y1 = some x) : r62 g [.int .u64 y0, .int .i64 y1] [] = some (rx62 x) := (dV_eq (asI_c _)).trans ((dV_eq (asI_c _)).trans (ofG_eq hx))
def s62 (g : Int → Int → Option (List UInt8)) : Summ := ⟨[.v, .v], r62 g⟩
theorem r62_eq {g : Int → Int → Option (List UInt8)} {y0 : Int} {y1 : Int} {x : List UInt8} (hx : g y0 y1 = some x) : (s62 g).run [.int .u64 y0, .int .i64 y1] [] = some (rx62 x) := r62_c hx
abbrev sums62 : List (Nat × Summ) := []
def head62_1 (n : Int) (k : Int) (t17 : Int) (b : List Int) : VM :=
  ⟨⟨62, 34, [(0, .int .u64 n), (1, .int .i64 k), (5, .slice (some ⟨0, 0, none⟩) k.toNat 1), (16, .int .i64 (k.toNat : Int)), (17, .int .i64 t17)], [.code k62_17, .inLoop k62_17, .inBlock 0, .code k62_22], [], false, none⟩, [], [(0, .row true (vI .u8 b))], 1⟩
theorem loop62_1 (hS : SumsOK Try.prog (aget (sums62))) (n : Int) (k : Int) (res : List UInt8) : ∀ fuel (st : Int × (List Int)) (o : List UInt8), iter (fun st => octet_Put_s1 n k st.1 st.2) fuel st = some o → (o = res) →
    Leads Try.prog 62 0 (head62_1 n k st.1 st.2) (fun v H _ => Res 0 (rx62 res) v H) := by
  intro fuel st o h hc
  refine iter_leads (head := fun st => head62_1 n k st.1 st.2) (C := fun o => (o = res)) ?_ fuel st o h hc
  clear h hc o st fuel
  intro st o h hc
  obtain ⟨t17, b⟩ := st
  replace h : octet_Put_s1 n k t17 b = some o := h
  show Leads Try.prog 62 0 (head62_1 n k t17 b) (fun v H _ => Res 0 (rx62 res) v H)
  unfold octet_Put_s1 at h
  refine ev_ok tab_ok hS true 3000 ?_
  conv => whnf
  refine br.h2 h ?_ ?_ ?_
  · rfl
  · clear h; intro hb h; conv => whnf
    replace h := oreq.elim h; have hb := h.1; replace h := h.2
    refine req.intro (by (first | rfl | (simp [vI, vB, vS, bI, oneC, addrBlk, cellsL, Value.cells] at *; omega) | (simp [vI, vB, vS, bI, oneC, addrBlk, cellsL, Value.cells] at *; done))) ?_
    conv => whnf
    refine pk_b2s ?_
    conv => whnf
    all_goals (cases h; cases hc)
    all_goals exact Res.of [] rfl nw_0 (by decide) js_0 wr_0
  clear h; intro hb h; conv => whnf
  let t : Int := wI .i64 (8 * (wI .i64 ((wI .i64 (k - 1)) - t17)))
  replace h := oreq.elim h; have hb := h.1; replace h := h.2
  first | (refine req.intro hb ?_; conv => whnf) | skip
  replace h := oreq.elim h; have hb := h.1; replace h := h.2
  first | (refine req.intro hb ?_; conv => whnf) | skip
  replace h := oreq.elim h; have hb := h.1; replace h := h.2
  refine st_I hb (by first | rfl | (rw [Nat.zero_add, Nat.mul_one]; done) | omega) ?_
  conv => whnf
  let row : List Int := b.set t17.toNat (wI .u8 (n.fdiv (2 ^ (min t.toNat 64))))
  cases h; simp only [Sum.elim_inl, head62_1] at hc
  refine Leads.re hc [(0, 0)] rfl ?_ ?_ <;> (repeat' first | exact trivial | refine ⟨⟨_, rfl, rfl⟩, ?_⟩ | refine ⟨⟨_, _, rfl, rfl, .rowF (vI_flat _ _) id⟩, ?_⟩ | refine ⟨⟨_, _, rfl, rfl, .rowF (vS_flat _) id⟩, ?_⟩ | refine ⟨⟨_, _, rfl, rfl, .rowF (vB_flat _) id⟩, ?_⟩ | refine ⟨⟨_, _, rfl, rfl, .rowF (vT_flat (by first | exact cudp_Head_flat | exact capi_Addr_flat | exact coctet_Reader_flat) _) id⟩, ?_⟩ | refine ⟨⟨_, _, rfl, rfl, .tyF (vI_flat _ _)⟩, ?_⟩ | refine ⟨⟨_, _, rfl, rfl, .ty rfl⟩, ?_⟩ | refine ⟨⟨_, _, rfl, rfl, .cells rfl⟩, ?_⟩ | refine ⟨⟨_, _, rfl, rfl, .row rfl id⟩, ?_⟩ | refine ⟨⟨_, _, rfl, rfl, .cr rfl⟩, ?_⟩ | refine ⟨⟨_, _, rfl, rfl, .rc rfl⟩, ?_⟩ | refine ⟨⟨_, _, rfl, rfl, .marks⟩, ?_⟩ | refine ⟨⟨_, _, rfl, rfl, .siter _ _⟩, ?_⟩ | refine ⟨⟨_, _, rfl, rfl, .loop rfl rfl rfl rfl (by repeat' first | exact trivial | refine ⟨rfl, ?_⟩) rfl rfl rfl rfl⟩, ?_⟩)
theorem leads62 (hS : SumsOK Try.prog (aget (sums62))) (n : Int) (k : Int) (res : List UInt8) (h : octet_PutF n k = some res) :
    Leads Try.prog 62 0 ⟨⟨62, 34, [(0, .int .u64 n), (1, .int .i64 k)], [.code k62_26], [], false, none⟩, [], [], 0⟩ (fun v H _ => Res 0 (rx62 res) v H) := by
  unfold octet_PutF at h
  refine ev_ok tab_ok hS true 3000 ?_
  conv => whnf
  refine br.h h ?_ ?_ ?_
  · rfl
  · clear h; intro hb h; conv => whnf
    all_goals (cases h)
    all_goals exact Res.of [] rfl nw_0 (by decide) js_0 wr_0
  clear h; intro hb h; conv => whnf
  refine br.h h ?_ ?_ ?_
  · rfl
  · clear h; intro hb h; conv => whnf
    all_goals (cases h)
    all_goals exact Res.of [] rfl nw_0 (by decide) js_0 wr_0
  clear h; intro hb h; conv => whnf
  replace h := oreq.elim h; have hb := h.1; replace h := h.2
  first | (refine req.intro hb ?_; conv => whnf) | skip
  refine pk_mkI ?_
  conv => whnf
  have hl := loop62_1 hS _ _ res _ _ _ h rfl; simp only [head62_1] at hl
  refine Leads.re hl [(0, 0)] rfl ?_ ?_ <;> (repeat' first | exact trivial | refine ⟨⟨_, rfl, rfl⟩, ?_⟩ | refine ⟨⟨_, _, rfl, rfl, .rowF (vI_flat _ _) id⟩, ?_⟩ | refine ⟨⟨_, _, rfl, rfl, .rowF (vS_flat _) id⟩, ?_⟩ | refine ⟨⟨_, _, rfl, rfl, .rowF (vB_flat _) id⟩, ?_⟩ | refine ⟨⟨_, _, rfl, rfl, .rowF (vT_flat (by first | exact cudp_Head_flat | exact capi_Addr_flat | exact coctet_Reader_flat) _) id⟩, ?_⟩ | refine ⟨⟨_, _, rfl, rfl, .tyF (vI_flat _ _)⟩, ?_⟩ | refine ⟨⟨_, _, rfl, rfl, .ty rfl⟩, ?_⟩ | refine ⟨⟨_, _, rfl, rfl, .cells rfl⟩, ?_⟩ | refine ⟨⟨_, _, rfl, rfl, .row rfl id⟩, ?_⟩ | refine ⟨⟨_, _, rfl, rfl, .cr rfl⟩, ?_⟩ | refine ⟨⟨_, _, rfl, rfl, .rc rfl⟩, ?_⟩ | refine ⟨⟨_, _, rfl, rfl, .marks⟩, ?_⟩ | refine ⟨⟨_, _, rfl, rfl, .siter _ _⟩, ?_⟩ | refine ⟨⟨_, _, rfl, rfl, .loop rfl rfl rfl rfl (by repeat' first | exact trivial | refine ⟨rfl, ?_⟩) rfl rfl rfl rfl⟩, ?_⟩)
theorem ok62 (hS : SumsOK Try.prog (aget (sums62))) : SumOK Try.prog 62 (s62 (octet_PutF)) := by
  refine SumOK.of_leads tab_ok (fun ar os r ha hr => ?_) ⟨Try.f62, rfl, by decide, rfl⟩
  replace hr : r62 (octet_PutF) ar (conts os) = some r := hr
  unfold r62 at hr
  generalize hc : conts os = C at hr
  have hq := dV.elim hr; clear hr; obtain ⟨v0, l1, y0, rfl, e0, hr⟩ := hq; obtain rfl := asI_eq _ _ _ e0
  have hq := dV.elim hr; clear hr; obtain ⟨v1, l2, y1, rfl, e1, hr⟩ := hq; obtain rfl := asI_eq _ _ _ e1
  have hq := dEnd.elim hr; clear hr; obtain ⟨rfl, rfl, hr⟩ := hq
  have hq := ofG.elim hr; clear hr; obtain ⟨x, h, rfl⟩ := hq
  obtain rfl := kinds_nil hc
  exact ⟨_, rfl, leads62 hS _ _ x h⟩
def octet_Put : Int → Int → Option (List UInt8) := octet_PutF
theorem lift62 : SumOK Try.prog 62 (s62 octet_Put) := ok62 (SumsOK.of_tab trivial)
end Go.Vm.Code

namespace Go.Vm.Code
open Go Go.Vm Go.Proofs
set_option maxRecDepth 100000
set_option maxHeartbeats 4000000
set_option linter.unusedVariables false

/-! cloakroom/octet.Get -/
def octet_Get_s1 (t1 : List UInt8) (n : Int) (t37 : Int) : Option (Sum (Int × Int) (Int × Bool)) :=
  cond (decide (t37 < (t1.length : Int)))
    (
    oreq (decide ((0 : Int) ≤ t37 ∧ t37 < (t1.length : Int))) <|
    ((bI t1)[t37.toNat]?).bind fun (e : Int) =>
    let t2 := iorI .u64 (wI .u64 (n * 2 ^ 8)) (wI .u64 e)
    some (.inl (t2, wI .i64 (t37 + 1))))
    (
    some (.inr ((n, true))))
def octet_GetF (s : List UInt8) (ata1 : Int) (k : Int) : Option (Int × Bool) :=
  cond (decide (k < 1))
    (
    some ((0, false)))
    (
    cond (decide (k > 8))
      (
      some ((0, false)))
      (
      cond (decide (ata1 < 0))
        (
        some ((0, false)))
        (
        let t := decide ((wI .i64 ((s.length : Int) - k)) < ata1)
        cond (t)
          (
          some ((0, false)))
          (
          oreq (decide ((0 : Int) ≤ (wI .i64 (ata1 + k)) ∧ (wI .i64 (ata1 + k)) ≤ (s.length : Int) ∧ (0 : Int) ≤ ata1 ∧ ata1 ≤ ((wI .i64 (ata1 + k)).toNat : Int))) <|
          let t1 := (s.drop ata1.toNat).take ((wI .i64 (ata1 + k)).toNat - ata1.toNat)
          iter (fun st => octet_Get_s1 t1 st.1 st.2) FUEL (0, 0)))))
def rx101 (x : Int × Bool) : SRes := ⟨.tuple ⟨[.int .u64 x.1, .bool x.2]⟩, [], []⟩
def r101 (g : (List UInt8) → Int → Int → Option (Int × Bool)) : Dec := dV asS fun (y0 : List UInt8) => dV (asI .i64) fun (y1 : Int) => dV (asI .i64) fun (y2 : Int) => dEnd (ofG (g y0 y1 y2) rx101)
theorem r101_c {g : (List UInt8) → Int → Int → Option (Int × Bool)} {y0 : List UInt8} {y1 : Int} {y2 : Int} {x : Int × Bool} (hx : g y0 y1 y2 = some x) : r101 g [.string ⟨⟨y0⟩⟩, .int .i64 y1, .int .i64 y2] [] = some (rx101 x) := (dV_eq (asS_c)).trans ((dV_eq (asI_c _)).trans ((dV_eq (asI_c _)).trans (ofG_eq hx)))
def s101 (g : (List UInt8) → Int → Int → Option (Int × Bool)) : Summ := ⟨[.v, .v, .v], r101 g⟩
theorem r101_eq {g : (List UInt8) → Int → Int → Option (Int × Bool)} {y0 : List UInt8} {y1 : Int} {y2 : Int} {x : Int × Bool} (hx : g y0 y1 y2 = some x) : (s101 g).run [.string ⟨⟨y0⟩⟩, .int .i64 y1, .int .i64 y2] [] = some (rx101 x) := r101_c hx
abbrev sums101 : List (Nat × Summ) := []
def head101_1 (t1 : List UInt8) (n : Int) (t37 : Int) : VM :=
  ⟨⟨101, 48, [(8, .int .u64 n), (35, .slice (some ⟨0, 0, none⟩) t1.length 1), (36, .int .i64 (t1.length : Int)), (37, .int .i64 t37)], [.code k101_17, .inLoop k101_17, .inBlock 0, .code k101_22], [], false, none⟩, [], [(0, .row true (vI .u8 (bI t1)))], 1⟩
theorem loop101_1 (hS : SumsOK Try.prog (aget (sums101))) (t1 : List UInt8) (res : Int × Bool) : ∀ fuel (st : Int × Int) (o : Int × Bool), iter (fun st => octet_Get_s1 t1 st.1 st.2) fuel st = some o → (o = res) →
    Leads Try.prog 101 0 (head101_1 t1 st.1 st.2) (fun v H _ => Res 0 (rx101 res) v H) := by
  intro fuel st o h hc
  refine iter_leads (head := fun st => head101_1 t1 st.1 st.2) (C := fun o => (o = res)) ?_ fuel st o h hc
  clear h hc o st fuel
  intro st o h hc
  obtain ⟨n, t37⟩ := st
  replace h : octet_Get_s1 t1 n t37 = some o := h
  show Leads Try.prog 101 0 (head101_1 t1 n t37) (fun v H _ => Res 0 (rx101 res) v H)
  unfold octet_Get_s1 at h
  refine ev_ok tab_ok hS true 3000 ?_
  conv => whnf
  refine br.h2 h ?_ ?_ ?_
  · rfl
  · clear h; intro hb h; conv => whnf
    all_goals (cases h; cases hc)
    all_goals exact Res.of [] rfl nw_0 (by decide) js_0 wr_0
  clear h; intro hb h; conv => whnf
  replace h := oreq.elim h; have hb := h.1; replace h := h.2
  first | (refine req.intro hb ?_; conv => whnf) | skip
  obtain ⟨e, hy, h2⟩ := obind.elim h; clear h; have h := h2; clear h2
  refine rd.I hy (by first | rfl | (rw [Nat.zero_add, Nat.mul_one]; done) | omega) ?_
  conv => whnf
  let t2 : Int := iorI .u64 (wI .u64 (n * 2 ^ 8)) (wI .u64 e)
  cases h; simp only [Sum.elim_inl, head101_1] at hc
  refine Leads.re hc [(0, 0)] rfl ?_ ?_ <;> (repeat' first | exact trivial | refine ⟨⟨_, rfl, rfl⟩, ?_⟩ | refine ⟨⟨_, _, rfl, rfl, .rowF (vI_flat _ _) id⟩, ?_⟩ | refine ⟨⟨_, _, rfl, rfl, .rowF (vS_flat _) id⟩, ?_⟩ | refine ⟨⟨_, _, rfl, rfl, .rowF (vB_flat _) id⟩, ?_⟩ | refine ⟨⟨_, _, rfl, rfl, .rowF (vT_flat (by first | exact cudp_Head_flat | exact capi_Addr_flat | exact coctet_Reader_flat) _) id⟩, ?_⟩ | refine ⟨⟨_, _, rfl, rfl, .tyF (vI_flat _ _)⟩, ?_⟩ | refine ⟨⟨_, _, rfl, rfl, .ty rfl⟩, ?_⟩ | refine ⟨⟨_, _, rfl, rfl, .cells rfl⟩, ?_⟩ | refine ⟨⟨_, _, rfl, rfl, .row rfl id⟩, ?_⟩ | refine ⟨⟨_, _, rfl, rfl, .cr rfl⟩, ?_⟩ | refine ⟨⟨_, _, rfl, rfl, .rc rfl⟩, ?_⟩ | refine ⟨⟨_, _, rfl, rfl, .marks⟩, ?_⟩ | refine ⟨⟨_, _, rfl, rfl, .siter _ _⟩, ?_⟩ | refine ⟨⟨_, _, rfl, rfl, .loop rfl rfl rfl rfl (by repeat' first | exact trivial | refine ⟨rfl, ?_⟩) rfl rfl rfl rfl⟩, ?_⟩)
theorem leads101 (hS : SumsOK Try.prog (aget (sums101))) (s : List UInt8) (ata1 : Int) (k : Int) (res : Int × Bool) (h : octet_GetF s ata1 k = some res) :
    Leads Try.prog 101 0 ⟨⟨101, 48, [(0, .string ⟨⟨s⟩⟩), (1, .int .i64 ata1), (2, .int .i64 k)], [.code k101_26], [], false, none⟩, [], [], 0⟩ (fun v H _ => Res 0 (rx101 res) v H) := by
  unfold octet_GetF at h
  refine ev_ok tab_ok hS true 3000 ?_
  conv => whnf
  refine br.h h ?_ ?_ ?_
  · rfl
  · clear h; intro hb h; conv => whnf
    all_goals (cases h)
    all_goals exact Res.of [] rfl nw_0 (by decide) js_0 wr_0
  clear h; intro hb h; conv => whnf
  refine br.h h ?_ ?_ ?_
  · rfl
  · clear h; intro hb h; conv => whnf
    all_goals (cases h)
    all_goals exact Res.of [] rfl nw_0 (by decide) js_0 wr_0
  clear h; intro hb h; conv => whnf
  refine br.h h ?_ ?_ ?_
  · rfl
  · clear h; intro hb h; conv => whnf
    all_goals (cases h)
    all_goals exact Res.of [] rfl nw_0 (by decide) js_0 wr_0
  clear h; intro hb h; conv => whnf
  let t : Bool := decide ((wI .i64 ((s.length : Int) - k)) < ata1)
  refine br.h h ?_ ?_ ?_
  · rfl
  · clear h; intro hb h; conv => whnf
    all_goals (cases h)
    all_goals exact Res.of [] rfl nw_0 (by decide) js_0 wr_0
  clear h; intro hb h; conv => whnf
  replace h := oreq.elim h; have hb := h.1; replace h := h.2
  first | (refine req.intro hb ?_; conv => whnf) | skip
  let t1 : List UInt8 := (s.drop ata1.toNat).take ((wI .i64 (ata1 + k)).toNat - ata1.toNat)
  refine pk_s2b ?_
  conv => whnf
  have hl := loop101_1 hS _ res _ _ _ h rfl; simp only [head101_1] at hl
  refine Leads.re hl [(0, 0)] rfl ?_ ?_ <;> (repeat' first | exact trivial | refine ⟨⟨_, rfl, rfl⟩, ?_⟩ | refine ⟨⟨_, _, rfl, rfl, .rowF (vI_flat _ _) id⟩, ?_⟩ | refine ⟨⟨_, _, rfl, rfl, .rowF (vS_flat _) id⟩, ?_⟩ | refine ⟨⟨_, _, rfl, rfl, .rowF (vB_flat _) id⟩, ?_⟩ | refine ⟨⟨_, _, rfl, rfl, .rowF (vT_flat (by first | exact cudp_Head_flat | exact capi_Addr_flat | exact coctet_Reader_flat) _) id⟩, ?_⟩ | refine ⟨⟨_, _, rfl, rfl, .tyF (vI_flat _ _)⟩, ?_⟩ | refine ⟨⟨_, _, rfl, rfl, .ty rfl⟩, ?_⟩ | refine ⟨⟨_, _, rfl, rfl, .cells rfl⟩, ?_⟩ | refine ⟨⟨_, _, rfl, rfl, .row rfl id⟩, ?_⟩ | refine ⟨⟨_, _, rfl, rfl, .cr rfl⟩, ?_⟩ | refine ⟨⟨_, _, rfl, rfl, .rc rfl⟩, ?_⟩ | refine ⟨⟨_, _, rfl, rfl, .marks⟩, ?_⟩ | refine ⟨⟨_, _, rfl, rfl, .siter _ _⟩, ?_⟩ | refine ⟨⟨_, _, rfl, rfl, .loop rfl rfl rfl rfl (by repeat' first | exact trivial | refine ⟨rfl, ?_⟩) rfl rfl rfl rfl⟩, ?_⟩)
theorem ok101 (hS : SumsOK Try.prog (aget (sums101))) : SumOK Try.prog 101 (s101 (octet_GetF)) := by
  refine SumOK.of_leads tab_ok (fun ar os r ha hr => ?_) ⟨Try.f101, rfl, by decide, rfl⟩
  replace hr : r101 (octet_GetF) ar (conts os) = some r := hr
  unfold r101 at hr
  generalize hc : conts os = C at hr
  have hq := dV.elim hr; clear hr; obtain ⟨v0, l1, y0, rfl, e0, hr⟩ := hq; obtain rfl := asS_eq _ _ e0
  have hq := dV.elim hr; clear hr; obtain ⟨v1, l2, y1, rfl, e1, hr⟩ := hq; obtain rfl := asI_eq _ _ _ e1
  have hq := dV.elim hr; clear hr; obtain ⟨v2, l3, y2, rfl, e2, hr⟩ := hq; obtain rfl := asI_eq _ _ _ e2
  have hq := dEnd.elim hr; clear hr; obtain ⟨rfl, rfl, hr⟩ := hq
  have hq := ofG.elim hr; clear hr; obtain ⟨x, h, rfl⟩ := hq
  obtain rfl := kinds_nil hc
  exact ⟨_, rfl, leads101 hS _ _ _ x h⟩
def octet_Get : (List UInt8) → Int → Int → Option (Int × Bool) := octet_GetF
theorem lift101 : SumOK Try.prog 101 (s101 octet_Get) := ok101 (SumsOK.of_tab trivial)
end Go.Vm.Code

namespace Go.Vm.Code
open Go Go.Vm Go.Proofs
set_option maxRecDepth 100000
set_option maxHeartbeats 4000000
set_option linter.unusedVariables false

/-! cloakroom/cloakroomref02.Put -/
def R02_Put_s1 (k : Int) (n1 : Int) (s : List UInt8) (i : Int) : Option (Sum (Int × (List UInt8) × Int) (List UInt8)) :=
  cond (decide (i < k))
    (
    cond (decide (k ≤ 8))
      (
      let t := [UInt8.ofNat (wI .u8 (n1.tmod 256)).toNat]
      oreq (decide (t.length + s.length < 2 ^ 63)) <|
      some (.inl (wI .u64 (n1.tdiv 256), t ++ s, wI .i64 (i + 1))))
      (
      some (.inr (s))))
    (
    some (.inr (s)))
def R02_PutF (n : Int) (k : Int) : Option (List UInt8) :=
  iter (fun st => R02_Put_s1 k st.1 st.2.1 st.2.2) FUEL (n, [], 0)
def rx67 (x : List UInt8) : SRes := ⟨.string ⟨⟨x⟩⟩, [], []⟩
def r67 (g : Int → Int → Option (List UInt8)) : Dec := dV (asI .u64) fun (y0 : Int) => dV (asI .i64) fun (y1 : Int) => dEnd (ofG (g y0 y1) rx67)
theorem r67_c {g : Int → Int → Option (List UInt8)} {y0 : Int} {y1 : Int} {x : List UInt8} (hx : g y0 y1 = some x) : r67 g [.int .u64 y0, .int .i64 y1] [] = some (rx67 x) := (dV_eq (asI_c _)).trans ((dV_eq (asI_c _)).trans (ofG_eq hx))
def s67 (g : Int → Int → Option (List UInt8)) : Summ := ⟨[.v, .v], r67 g⟩
theorem r67_eq {g : Int → Int → Option (List UInt8)} {y0 : Int} {y1 : Int} {x : List UInt8} (hx : g y0 y1 = some x) : (s67 g).run [.int .u64 y0, .int .i64 y1] [] = some (rx67 x) := r67_c hx
abbrev sums67 : List (Nat × Summ) := []
def head67_1 (k : Int) (n1 : Int) (s : List UInt8) (i : Int) : VM :=
  ⟨⟨67, 26, [(0, .int .u64 n1), (1, .int .i64 k), (5, .string ⟨⟨s⟩⟩), (6, .int .i64 i)], [.code k67_12, .inLoop k67_12, .inBlock 0, .code k67_17], [], false, none⟩, [], [], 0⟩
theorem loop67_1 (hS : SumsOK Try.prog (aget (sums67))) (k : Int) (res : List UInt8) : ∀ fuel (st : Int × (List UInt8) × Int) (o : List UInt8), iter (fun st => R02_Put_s1 k st.1 st.2.1 st.2.2) fuel st = some o → (o = res) →
    Leads Try.prog 67 0 (head67_1 k st.1 st.2.1 st.2.2) (fun v H _ => Res 0 (rx67 res) v H) := by
  intro fuel st o h hc
  refine iter_leads (head := fun st => head67_1 k st.1 st.2.1 st.2.2) (C := fun o => (o = res)) ?_ fuel st o h hc
  clear h hc o st fuel
  intro st o h hc
  obtain ⟨n1, s, i⟩ := st
  replace h : R02_Put_s1 k n1 s i = some o := h
  show Leads Try.prog 67 0 (head67_1 k n1 s i) (fun v H _ => Res 0 (rx67 res) v H)
  unfold R02_Put_s1 at h
  refine ev_ok tab_ok hS true 3000 ?_
  conv => whnf
  refine br.h2 h ?_ ?_ ?_
  · rfl
  · clear h; intro hb h; conv => whnf
    all_goals (cases h; cases hc)
    all_goals exact Res.of [] rfl nw_0 (by decide) js_0 wr_0
  clear h; intro hb h; conv => whnf
  refine br.h2 h ?_ ?_ ?_
  · rfl
  · clear h; intro hb h; conv => whnf
    all_goals (cases h; cases hc)
    all_goals exact Res.of [] rfl nw_0 (by decide) js_0 wr_0
  clear h; intro hb h; conv => whnf
  refine pk_b2sL rfl ?_
  conv => whnf
  let t : List UInt8 := [UInt8.ofNat (wI .u8 (n1.tmod 256)).toNat]
  replace h := oreq.elim h; have hb := h.1; replace h := h.2
  first | (refine req.intro hb ?_; conv => whnf) | skip
  cases h; simp only [Sum.elim_inl, head67_1] at hc
  refine Leads.re hc [] rfl ?_ ?_ <;> (repeat' first | exact trivial | refine ⟨⟨_, rfl, rfl⟩, ?_⟩ | refine ⟨⟨_, _, rfl, rfl, .rowF (vI_flat _ _) id⟩, ?_⟩ | refine ⟨⟨_, _, rfl, rfl, .rowF (vS_flat _) id⟩, ?_⟩ | refine ⟨⟨_, _, rfl, rfl, .rowF (vB_flat _) id⟩, ?_⟩ | refine ⟨⟨_, _, rfl, rfl, .rowF (vT_flat (by first | exact cudp_Head_flat | exact capi_Addr_flat | exact coctet_Reader_flat) _) id⟩, ?_⟩ | refine ⟨⟨_, _, rfl, rfl, .tyF (vI_flat _ _)⟩, ?_⟩ | refine ⟨⟨_, _, rfl, rfl, .ty rfl⟩, ?_⟩ | refine ⟨⟨_, _, rfl, rfl, .cells rfl⟩, ?_⟩ | refine ⟨⟨_, _, rfl, rfl, .row rfl id⟩, ?_⟩ | refine ⟨⟨_, _, rfl, rfl, .cr rfl⟩, ?_⟩ | refine ⟨⟨_, _, rfl, rfl, .rc rfl⟩, ?_⟩ | refine ⟨⟨_, _, rfl, rfl, .marks⟩, ?_⟩ | refine ⟨⟨_, _, rfl, rfl, .siter _ _⟩, ?_⟩ | refine ⟨⟨_, _, rfl, rfl, .loop rfl rfl rfl rfl (by repeat' first | exact trivial | refine ⟨rfl, ?_⟩) rfl rfl rfl rfl⟩, ?_⟩)
theorem leads67 (hS : SumsOK Try.prog (aget (sums67))) (n : Int) (k : Int) (res : List UInt8) (h : R02_PutF n k = some res) :
    Leads Try.prog 67 0 ⟨⟨67, 26, [(0, .int .u64 n), (1, .int .i64 k)], [.code k67_20], [], false, none⟩, [], [], 0⟩ (fun v H _ => Res 0 (rx67 res) v H) := by
  unfold R02_PutF at h
  refine ev_ok tab_ok hS true 3000 ?_
  conv => whnf
  have hl := loop67_1 hS _ res _ _ _ h rfl; simp only [head67_1] at hl
  refine Leads.re hl [] rfl ?_ ?_ <;> (repeat' first | exact trivial | refine ⟨⟨_, rfl, rfl⟩, ?_⟩ | refine ⟨⟨_, _, rfl, rfl, .rowF (vI_flat _ _) id⟩, ?_⟩ | refine ⟨⟨_, _, rfl, rfl, .rowF (vS_flat _) id⟩, ?_⟩ | refine ⟨⟨_, _, rfl, rfl, .rowF (vB_flat _) id⟩, ?_⟩ | refine ⟨⟨_, _, rfl, rfl, .rowF (vT_flat (by first | exact cudp_Head_flat | exact capi_Addr_flat | exact coctet_Reader_flat) _) id⟩, ?_⟩ | refine ⟨⟨_, _, rfl, rfl, .tyF (vI_flat _ _)⟩, ?_⟩ | refine ⟨⟨_, _, rfl, rfl, .ty rfl⟩, ?_⟩ | refine ⟨⟨_, _, rfl, rfl, .cells rfl⟩, ?_⟩ | refine ⟨⟨_, _, rfl, rfl, .row rfl id⟩, ?_⟩ | refine ⟨⟨_, _, rfl, rfl, .cr rfl⟩, ?_⟩ | refine ⟨⟨_, _, rfl, rfl, .rc rfl⟩, ?_⟩ | refine ⟨⟨_, _, rfl, rfl, .marks⟩, ?_⟩ | refine ⟨⟨_, _, rfl, rfl, .siter _ _⟩, ?_⟩ | refine ⟨⟨_, _, rfl, rfl, .loop rfl rfl rfl rfl (by repeat' first | exact trivial | refine ⟨rfl, ?_⟩) rfl rfl rfl rfl⟩, ?_⟩)
theorem ok67 (hS : SumsOK Try.prog (aget (sums67))) : SumOK Try.prog 67 (s67 (R02_PutF)) := by
  refine SumOK.of_leads tab_ok (fun ar os r ha hr => ?_) ⟨Try.f67, rfl, by decide, rfl⟩
  replace hr : r67 (R02_PutF) ar (conts os) = some r := hr
  unfold r67 at hr
  generalize hc : conts os = C at hr
  have hq := dV.elim hr; clear hr; obtain ⟨v0, l1, y0, rfl, e0, hr⟩ := hq; obtain rfl := asI_eq _ _ _ e0
  have hq := dV.elim hr; clear hr; obtain ⟨v1, l2, y1, rfl, e1, hr⟩ := hq; obtain rfl := asI_eq _ _ _ e1
  have hq := dEnd.elim hr; clear hr; obtain ⟨rfl, rfl, hr⟩ := hq
  have hq := ofG.elim hr; clear hr; obtain ⟨x, h, rfl⟩ := hq
  obtain rfl := kinds_nil hc
  exact ⟨_, rfl, leads67 hS _ _ x h⟩
def R02_Put : Int → Int → Option (List UInt8) := R02_PutF
theorem lift67 : SumOK Try.prog 67 (s67 R02_Put) := ok67 (SumsOK.of_tab trivial)
end Go.Vm.Code

namespace Go.Vm.Code
open Go Go.Vm Go.Proofs
set_option maxRecDepth 100000
set_option maxHeartbeats 4000000
set_option linter.unusedVariables false

/-! cloakroom/cloakroomref02.Get -/
def R02_Get_s1 (s : List UInt8) (ata1 : Int) (k : Int) (n : Int) (i : Int) : Option (Sum (Int × Int) (Int × Bool)) :=
  cond (decide (i < k))
    (
    oreq (decide (0 ≤ (wI .i64 (ata1 + i)))) <|
    (s[(wI .i64 (ata1 + i)).toNat]?).bind fun (b : UInt8) =>
    let t1 := wI .u64 ((wI .u64 (n * 256)) + (wI .u64 (b.toNat : Int)))
    some (.inl (t1, wI .i64 (i + 1))))
    (
    some (.inr ((n, true))))
def R02_GetF (s : List UInt8) (ata1 : Int) (k : Int) : Option (Int × Bool) :=
  cond (decide (k < 1))
    (
    some ((0, false)))
    (
    cond (decide (k > 8))
      (
      some ((0, false)))
      (
      cond (decide (ata1 < 0))
        (
        some ((0, false)))
        (
        cond (decide (ata1 > (s.length : Int)))
          (
          some ((0, false)))
          (
          let t := decide (k > (wI .i64 ((s.length : Int) - ata1)))
          cond (t)
            (
            some ((0, false)))
            (
            iter (fun st => R02_Get_s1 s ata1 k st.1 st.2) FUEL (0, 0))))))
def rx114 (x : Int × Bool) : SRes := ⟨.tuple ⟨[.int .u64 x.1, .bool x.2]⟩, [], []⟩
def r114 (g : (List UInt8) → Int → Int → Option (Int × Bool)) : Dec := dV asS fun (y0 : List UInt8) => dV (asI .i64) fun (y1 : Int) => dV (asI .i64) fun (y2 : Int) => dEnd (ofG (g y0 y1 y2) rx114)
theorem r114_c {g : (List UInt8) → Int → Int → Option (Int × Bool)} {y0 : List UInt8} {y1 : Int} {y2 : Int} {x : Int × Bool} (hx : g y0 y1 y2 = some x) : r114 g [.string ⟨⟨y0⟩⟩, .int .i64 y1, .int .i64 y2] [] = some (rx114 x) := (dV_eq (asS_c)).trans ((dV_eq (asI_c _)).trans ((dV_eq (asI_c _)).trans (ofG_eq hx)))
def s114 (g : (List UInt8) → Int → Int → Option (Int × Bool)) : Summ := ⟨[.v, .v, .v], r114 g⟩
theorem r114_eq {g : (List UInt8) → Int → Int → Option (Int × Bool)} {y0 : List UInt8} {y1 : Int} {y2 : Int} {x : Int × Bool} (hx : g y0 y1 y2 = some x) : (s114 g).run [.string ⟨⟨y0⟩⟩, .int .i64 y1, .int .i64 y2] [] = some (rx114 x) := r114_c hx
abbrev sums114 : List (Nat × Summ) := []
def head114_1 (s : List UInt8) (ata1 : Int) (k : Int) (n : Int) (i : Int) : VM :=
  ⟨⟨114, 49, [(0, .string ⟨⟨s⟩⟩), (1, .int .i64 ata1), (2, .int .i64 k), (8, .int .u64 n), (9, .int .i64 i)], [.code k114_15, .inLoop k114_15, .inBlock 0, .code k114_20], [], false, none⟩, [], [], 0⟩
theorem loop114_1 (hS : SumsOK Try.prog (aget (sums114))) (s : List UInt8) (ata1 : Int) (k : Int) (res : Int × Bool) : ∀ fuel (st : Int × Int) (o : Int × Bool), iter (fun st => R02_Get_s1 s ata1 k st.1 st.2) fuel st = some o → (o = res) →
    Leads Try.prog 114 0 (head114_1 s ata1 k st.1 st.2) (fun v H _ => Res 0 (rx114 res) v H) := by
  intro fuel st o h hc
  refine iter_leads (head := fun st => head114_1 s ata1 k st.1 st.2) (C := fun o => (o = res)) ?_ fuel st o h hc
  clear h hc o st fuel
  intro st o h hc
  obtain ⟨n, i⟩ := st
  replace h : R02_Get_s1 s ata1 k n i = some o := h
  show Leads Try.prog 114 0 (head114_1 s ata1 k n i) (fun v H _ => Res 0 (rx114 res) v H)
  unfold R02_Get_s1 at h
  refine ev_ok tab_ok hS true 3000 ?_
  conv => whnf
  refine br.h2 h ?_ ?_ ?_
  · rfl
  · clear h; intro hb h; conv => whnf
    all_goals (cases h; cases hc)
    all_goals exact Res.of [] rfl nw_0 (by decide) js_0 wr_0
  clear h; intro hb h; conv => whnf
  replace h := oreq.elim h; have hb := h.1; replace h := h.2
  first | (refine req.intro hb ?_; conv => whnf) | skip
  obtain ⟨b, hy, h2⟩ := obind.elim h; clear h; have h := h2; clear h2
  refine rdS.intro hy ?_
  conv => whnf
  let t1 : Int := wI .u64 ((wI .u64 (n * 256)) + (wI .u64 (b.toNat : Int)))
  cases h; simp only [Sum.elim_inl, head114_1] at hc
  refine Leads.re hc [] rfl ?_ ?_ <;> (repeat' first | exact trivial | refine ⟨⟨_, rfl, rfl⟩, ?_⟩ | refine ⟨⟨_, _, rfl, rfl, .rowF (vI_flat _ _) id⟩, ?_⟩ | refine ⟨⟨_, _, rfl, rfl, .rowF (vS_flat _) id⟩, ?_⟩ | refine ⟨⟨_, _, rfl, rfl, .rowF (vB_flat _) id⟩, ?_⟩ | refine ⟨⟨_, _, rfl, rfl, .rowF (vT_flat (by first | exact cudp_Head_flat | exact capi_Addr_flat | exact coctet_Reader_flat) _) id⟩, ?_⟩ | refine ⟨⟨_, _, rfl, rfl, .tyF (vI_flat _ _)⟩, ?_⟩ | refine ⟨⟨_, _, rfl, rfl, .ty rfl⟩, ?_⟩ | refine ⟨⟨_, _, rfl, rfl, .cells rfl⟩, ?_⟩ | refine ⟨⟨_, _, rfl, rfl, .row rfl id⟩, ?_⟩ | refine ⟨⟨_, _, rfl, rfl, .cr rfl⟩, ?_⟩ | refine ⟨⟨_, _, rfl, rfl, .rc rfl⟩, ?_⟩ | refine ⟨⟨_, _, rfl, rfl, .marks⟩, ?_⟩ | refine ⟨⟨_, _, rfl, rfl, .siter _ _⟩, ?_⟩ | refine ⟨⟨_, _, rfl, rfl, .loop rfl rfl rfl rfl (by repeat' first | exact trivial | refine ⟨rfl, ?_⟩) rfl rfl rfl rfl⟩, ?_⟩)
theorem leads114 (hS : SumsOK Try.prog (aget (sums114))) (s : List UInt8) (ata1 : Int) (k : Int) (res : Int × Bool) (h : R02_GetF s ata1 k = some res) :
    Leads Try.prog 114 0 ⟨⟨114, 49, [(0, .string ⟨⟨s⟩⟩), (1, .int .i64 ata1), (2, .int .i64 k)], [.code k114_24], [], false, none⟩, [], [], 0⟩ (fun v H _ => Res 0 (rx114 res) v H) := by
  unfold R02_GetF at h
  refine ev_ok tab_ok hS true 3000 ?_
  conv => whnf
  refine br.h h ?_ ?_ ?_
  · rfl
  · clear h; intro hb h; conv => whnf
    all_goals (cases h)
    all_goals exact Res.of [] rfl nw_0 (by decide) js_0 wr_0
  clear h; intro hb h; conv => whnf
  refine br.h h ?_ ?_ ?_
  · rfl
  · clear h; intro hb h; conv => whnf
    all_goals (cases h)
    all_goals exact Res.of [] rfl nw_0 (by decide) js_0 wr_0
  clear h; intro hb h; conv => whnf
  refine br.h h ?_ ?_ ?_
  · rfl
  · clear h; intro hb h; conv => whnf
    all_goals (cases h)
    all_goals exact Res.of [] rfl nw_0 (by decide) js_0 wr_0
  clear h; intro hb h; conv => whnf
  refine br.h h ?_ ?_ ?_
  · rfl
  · clear h; intro hb h; conv => whnf
    all_goals (cases h)
    all_goals exact Res.of [] rfl nw_0 (by decide) js_0 wr_0
  clear h; intro hb h; conv => whnf
  let t : Bool := decide (k > (wI .i64 ((s.length : Int) - ata1)))
  refine br.h h ?_ ?_ ?_
  · rfl
  · clear h; intro hb h; conv => whnf
    all_goals (cases h)
    all_goals exact Res.of [] rfl nw_0 (by decide) js_0 wr_0
  clear h; intro hb h; conv => whnf
  have hl := loop114_1 hS _ _ _ res _ _ _ h rfl; simp only [head114_1] at hl
  refine Leads.re hl [] rfl ?_ ?_ <;> (repeat' first | exact trivial | refine ⟨⟨_, rfl, rfl⟩, ?_⟩ | refine ⟨⟨_, _, rfl, rfl, .rowF (vI_flat _ _) id⟩, ?_⟩ | refine ⟨⟨_, _, rfl, rfl, .rowF (vS_flat _) id⟩, ?_⟩ | refine ⟨⟨_, _, rfl, rfl, .rowF (vB_flat _) id⟩, ?_⟩ | refine ⟨⟨_, _, rfl, rfl, .rowF (vT_flat (by first | exact cudp_Head_flat | exact capi_Addr_flat | exact coctet_Reader_flat) _) id⟩, ?_⟩ | refine ⟨⟨_, _, rfl, rfl, .tyF (vI_flat _ _)⟩, ?_⟩ | refine ⟨⟨_, _, rfl, rfl, .ty rfl⟩, ?_⟩ | refine ⟨⟨_, _, rfl, rfl, .cells rfl⟩, ?_⟩ | refine ⟨⟨_, _, rfl, rfl, .row rfl id⟩, ?_⟩ | refine ⟨⟨_, _, rfl, rfl, .cr rfl⟩, ?_⟩ | refine ⟨⟨_, _, rfl, rfl, .rc rfl⟩, ?_⟩ | refine ⟨⟨_, _, rfl, rfl, .marks⟩, ?_⟩ | refine ⟨⟨_, _, rfl, rfl, .siter _ _⟩, ?_⟩ | refine ⟨⟨_, _, rfl, rfl, .loop rfl rfl rfl rfl (by repeat' first | exact trivial | refine ⟨rfl, ?_⟩) rfl rfl rfl rfl⟩, ?_⟩)
theorem ok114 (hS : SumsOK Try.prog (aget (sums114))) : SumOK Try.prog 114 (s114 (R02_GetF)) := by
  refine SumOK.of_leads tab_ok (fun ar os r ha hr => ?_) ⟨Try.f114, rfl, by decide, rfl⟩
  replace hr : r114 (R02_GetF) ar (conts os) = some r := hr
  unfold r114 at hr
  generalize hc : conts os = C at hr
  have hq := dV.elim hr; clear hr; obtain ⟨v0, l1, y0, rfl, e0, hr⟩ := hq; obtain rfl := asS_eq _ _ e0
  have hq := dV.elim hr; clear hr; obtain ⟨v1, l2, y1, rfl, e1, hr⟩ := hq; obtain rfl := asI_eq _ _ _ e1
  have hq := dV.elim hr; clear hr; obtain ⟨v2, l3, y2, rfl, e2, hr⟩ := hq; obtain rfl := asI_eq _ _ _ e2
  have hq := dEnd.elim hr; clear hr; obtain ⟨rfl, rfl, hr⟩ := hq
  have hq := ofG.elim hr; clear hr; obtain ⟨x, h, rfl⟩ := hq
  obtain rfl := kinds_nil hc
  exact ⟨_, rfl, leads114 hS _ _ _ x h⟩
def R02_Get : (List UInt8) → Int → Int → Option (Int × Bool) := R02_GetF
theorem lift114 : SumOK Try.prog 114 (s114 R02_Get) := ok114 (SumsOK.of_tab trivial)
end Go.Vm.Code

namespace Go.Vm.Code
open Go Go.Vm Go.Proofs
set_option maxRecDepth 100000
set_option maxHeartbeats 4000000
set_option linter.unusedVariables false

/-! cloakroom/cloakroomref02.Must -/
def R02_MustF (R02_Get : (List UInt8) → Int → Int → Option (Int × Bool)) (s : List UInt8) (ata1 : Int) (k : Int) : Option Int :=
  (R02_Get s ata1 k).bind fun xg =>
  some (wI .i64 xg.1)
def rx74 (x : Int) : SRes := ⟨.int .i64 x, [], []⟩
def r74 (g : (List UInt8) → Int → Int → Option Int) : Dec := dV asS fun (y0 : List UInt8) => dV (asI .i64) fun (y1 : Int) => dV (asI .i64) fun (y2 : Int) => dEnd (ofG (g y0 y1 y2) rx74)
theorem r74_c {g : (List UInt8) → Int → Int → Option Int} {y0 : List UInt8} {y1 : Int} {y2 : Int} {x : Int} (hx : g y0 y1 y2 = some x) : r74 g [.string ⟨⟨y0⟩⟩, .int .i64 y1, .int .i64 y2] [] = some (rx74 x) := (dV_eq (asS_c)).trans ((dV_eq (asI_c _)).trans ((dV_eq (asI_c _)).trans (ofG_eq hx)))
def s74 (g : (List UInt8) → Int → Int → Option Int) : Summ := ⟨[.v, .v, .v], r74 g⟩
theorem r74_eq {g : (List UInt8) → Int → Int → Option Int} {y0 : List UInt8} {y1 : Int} {y2 : Int} {x : Int} (hx : g y0 y1 y2 = some x) : (s74 g).run [.string ⟨⟨y0⟩⟩, .int .i64 y1, .int .i64 y2] [] = some (rx74 x) := r74_c hx
abbrev sums74 (R02_Get : (List UInt8) → Int → Int → Option (Int × Bool)) : List (Nat × Summ) := [(114, s114 R02_Get)]
theorem leads74 (R02_Get : (List UInt8) → Int → Int → Option (Int × Bool)) (hS : SumsOK Try.prog (aget (sums74 R02_Get))) (s : List UInt8) (ata1 : Int) (k : Int) (res : Int) (h : R02_MustF R02_Get s ata1 k = some res) :
    Leads Try.prog 74 0 ⟨⟨74, 18, [(0, .string ⟨⟨s⟩⟩), (1, .int .i64 ata1), (2, .int .i64 k)], [.code k74_5], [], false, none⟩, [], [], 0⟩ (fun v H _ => Res 0 (rx74 res) v H) := by
  unfold R02_MustF at h
  refine ev_ok tab_ok hS true 3000 ?_
  conv => whnf
  obtain ⟨xg, hy, h2⟩ := obind.elim h; clear h; have h := h2; clear h2
  refine sumK.introF [] (sumRun_of (aqs := [.string ⟨⟨s⟩⟩, .int .i64 ata1, .int .i64 k]) (ws := []) (n := 0) (m := 0) (t' := 0) (ra_cons rfl rfl (ra_cons rfl rfl (ra_cons rfl rfl ra_nil))) rfl (by rfl) (r114_eq hy) rfl rfl rfl rfl wb_nil an_nil rfl) ?_
  conv => whnf
  all_goals (cases h)
  all_goals exact Res.of [] rfl nw_0 (by decide) js_0 wr_0
theorem ok74 (R02_Get : (List UInt8) → Int → Int → Option (Int × Bool)) (hS : SumsOK Try.prog (aget (sums74 R02_Get))) : SumOK Try.prog 74 (s74 (R02_MustF R02_Get)) := by
  refine SumOK.of_leads tab_ok (fun ar os r ha hr => ?_) ⟨Try.f74, rfl, by decide, rfl⟩
  replace hr : r74 (R02_MustF R02_Get) ar (conts os) = some r := hr
  unfold r74 at hr
  generalize hc : conts os = C at hr
  have hq := dV.elim hr; clear hr; obtain ⟨v0, l1, y0, rfl, e0, hr⟩ := hq; obtain rfl := asS_eq _ _ e0
  have hq := dV.elim hr; clear hr; obtain ⟨v1, l2, y1, rfl, e1, hr⟩ := hq; obtain rfl := asI_eq _ _ _ e1
  have hq := dV.elim hr; clear hr; obtain ⟨v2, l3, y2, rfl, e2, hr⟩ := hq; obtain rfl := asI_eq _ _ _ e2
  have hq := dEnd.elim hr; clear hr; obtain ⟨rfl, rfl, hr⟩ := hq
  have hq := ofG.elim hr; clear hr; obtain ⟨x, h, rfl⟩ := hq
  obtain rfl := kinds_nil hc
  exact ⟨_, rfl, leads74 R02_Get hS _ _ _ x h⟩
def R02_Must : (List UInt8) → Int → Int → Option Int := R02_MustF R02_Get
theorem lift74 : SumOK Try.prog 74 (s74 R02_Must) := ok74 R02_Get (SumsOK.of_tab ⟨lift114, trivial⟩)
end Go.Vm.Code

/- Chapter 2's numbers and bytes: what the lifted functions compute. -/
namespace Go.Vm.Code
open Go Go.Vm

def putS (n k : Int) : List UInt8 := if 1 ≤ k ∧ k ≤ 8 then be n.toNat k.toNat else []
theorem octet_Put_eq {n k : Int} (h0 : 0 ≤ n) : octet_Put n k = some (putS n k) := by
  unfold octet_Put octet_PutF putS
  by_cases h1 : k < 1
  · rw [cond_p h1, if_neg (by omega)]
  by_cases h2 : k > 8
  · rw [cond_n h1, cond_p h2, if_neg (by omega)]
  rw [cond_n h1, cond_n h2, oreq_p (by omega), if_pos (by omega)]
  obtain ⟨m, rfl⟩ := Int.eq_ofNat_of_zero_le h0
  obtain ⟨j, rfl⟩ := Int.eq_ofNat_of_zero_le (show 0 ≤ k by omega)
  have key := iter_eq (step := fun (st : Int × List Int) => octet_Put_s1 (m : Int) (j : Int) st.1 st.2) (fun st => iB (st.2.take st.1.toNat) ++ be m (j - st.1.toNat)) (fun st => 0 ≤ st.1 ∧ st.1 ≤ j ∧ st.2.length = j) (fun st => (j - st.1).toNat) ?_ FUEL (0, List.replicate (j : Int).toNat 0) ⟨by simp, by simp, by simp⟩ (by rw [FUEL_eq]; simp only; omega)
  · rw [key]; simp [iB]
  rintro ⟨p, b⟩ ⟨g1, g2, g3⟩
  simp only at g1 g2 g3 ⊢
  obtain ⟨i, rfl⟩ := Int.eq_ofNat_of_zero_le g1
  unfold octet_Put_s1
  by_cases hp : i < j
  · refine .inr ⟨(((i + 1 : Nat) : Int), b.set i ((m / 256 ^ (j - 1 - i) % 256 : Nat) : Int)), ?_, ⟨by simp only; omega, by simp only; omega, by simp [g3]⟩, by simp only; omega, ?_⟩
    · simp (disch := omega) only [wI64, oreq_p, cond_p, Int.toNat_natCast]
      have e1 : min (8 * ((j : Int) - 1 - i)).toNat 64 = 8 * (j - 1 - i) := by omega
      have e0 : (2 : Int) ^ (8 * (j - 1 - i)) = ((256 ^ (j - 1 - i) : Nat) : Int) := by rw [show (256 : Nat) = 2 ^ 8 from rfl, ← Nat.pow_mul]; push_cast; rfl
      rw [e1, fdivP, wU8m, e0]
      rfl
    · simp only [Int.toNat_natCast]
      have e2 : j - i = (j - (i + 1)) + 1 := by omega
      have e3 : j - (i + 1) = j - 1 - i := by omega
      have e4 : (b.set i ((m / 256 ^ (j - 1 - i) % 256 : Nat) : Int)).take (i + 1) = b.take i ++ [((m / 256 ^ (j - 1 - i) % 256 : Nat) : Int)] := by
        rw [List.take_succ_eq_append_getElem (by simp; omega), List.take_set_of_le (Nat.le_refl _), List.getElem_set_self]
      rw [e2, e4, be, e3]
      simp only [iB, List.map_append, List.map_cons, List.map_nil, List.append_assoc, List.cons_append, List.nil_append, Int.toNat_natCast]
      congr 2
      apply UInt8.toNat_inj.1
      simp
  · refine .inl ?_
    obtain rfl : i = j := by omega
    simp (disch := omega) only [cond_n, oreq_p, Int.toNat_natCast]
    simp [be]
theorem R02_Put_eq {n k : Int} (h0 : 0 ≤ n) (h1 : n < 2 ^ 64) : R02_Put n k = some (putS n k) := by
  unfold R02_Put R02_PutF putS
  obtain ⟨m, rfl⟩ := Int.eq_ofNat_of_zero_le h0
  by_cases hk : 1 ≤ k ∧ k ≤ 8
  · rw [if_pos hk]
    obtain ⟨j, rfl⟩ := Int.eq_ofNat_of_zero_le (show 0 ≤ k by omega)
    have key := iter_eq (step := fun st => R02_Put_s1 (j : Int) st.1 st.2.1 st.2.2) (fun st => be st.1.toNat (j - st.2.2.toNat) ++ st.2.1) (fun st => 0 ≤ st.1 ∧ st.1 < 2 ^ 64 ∧ 0 ≤ st.2.2 ∧ st.2.2 ≤ j ∧ st.2.1.length < 2 ^ 20 + st.2.2.toNat) (fun st => (j - st.2.2).toNat) ?_ FUEL ((m : Int), [], 0) ⟨by simp, by simp only; omega, by simp, by simp, by simp⟩ (by rw [FUEL_eq]; simp only; omega)
    · rw [key]; simp
    rintro ⟨n, s, p⟩ ⟨g1, g2, g3, g4, g5⟩
    simp only at g1 g2 g3 g4 g5 ⊢
    obtain ⟨i, rfl⟩ := Int.eq_ofNat_of_zero_le g3
    obtain ⟨x, rfl⟩ := Int.eq_ofNat_of_zero_le g1
    unfold R02_Put_s1
    by_cases hp : i < j
    · refine .inr ⟨(((x / 256 : Nat) : Int), UInt8.ofNat x :: s, ((i + 1 : Nat) : Int)), ?_, ⟨by simp only; omega, by simp only; omega, by simp only; omega, by simp only; omega, by simp at g5 ⊢; omega⟩, by simp only; omega, ?_⟩
      · have e1 : (x : Int).tmod 256 = ((x % 256 : Nat) : Int) := by rw [Int.tmod_eq_emod_of_nonneg (by omega)]; rfl
        have e2 : (x : Int).tdiv 256 = ((x / 256 : Nat) : Int) := by rw [Int.tdiv_eq_ediv_of_nonneg (by omega)]; rfl
        rw [cond_p (by omega), cond_p (by omega), e1, e2, wU8 (by omega) (by omega)]
        simp only [List.length_cons, List.length_nil]
        rw [oreq_p (by omega), wU64 (by omega) (by omega), wI64 (by omega) (by omega), Int.toNat_natCast]
        have e3 : UInt8.ofNat (x % 256) = UInt8.ofNat x := by apply UInt8.toNat_inj.1; simp
        rw [e3]; rfl
      · simp only [Int.toNat_natCast]
        have e2 : j - i = (j - (i + 1)) + 1 := by omega
        rw [e2, be_snoc]; simp
    · refine .inl ?_
      obtain rfl : i = j := by omega
      rw [cond_n (by omega)]
      simp [be]
  · rw [if_neg hk]
    show iter _ (18446744073709551615 + 1) _ = _
    rw [iter]
    have : R02_Put_s1 k (m : Int) [] 0 = some (.inr []) := by
      unfold R02_Put_s1
      by_cases h2 : 0 < k
      · rw [cond_p h2, cond_n (by omega)]
      · rw [cond_n h2]
    simp only [this]

/-- a number read -/
def getS (s : List UInt8) (p k : Int) : Int × Bool := if 1 ≤ k ∧ k ≤ 8 ∧ 0 ≤ p ∧ p + k ≤ s.length then (((valL ((s.drop p.toNat).take k.toNat) : Nat) : Int), true) else (0, false)
theorem pow_step {v i : Nat} (h : v < 256 ^ i) (hi : i ≤ 7) : v < 2 ^ 56 := Nat.lt_of_lt_of_le h (by
  have : (256 : Nat) ^ i ≤ 256 ^ 7 := Nat.pow_le_pow_right (by decide) hi
  simpa using this)
theorem octet_Get_eq {s : List UInt8} {p k : Int} (hs : s.length < 2 ^ 61) : octet_Get s p k = some (getS s p k) := by
  unfold octet_Get octet_GetF getS
  by_cases h1 : k < 1
  · rw [cond_p h1, if_neg (by omega)]
  by_cases h2 : k > 8
  · rw [cond_n h1, cond_p h2, if_neg (by omega)]
  by_cases h3 : p < 0
  · rw [cond_n h1, cond_n h2, cond_p h3, if_neg (by omega)]
  rw [cond_n h1, cond_n h2, cond_n h3, wI64 (n := (s.length : Int) - k) (by omega) (by omega)]
  by_cases h4 : (s.length : Int) - k < p
  · simp only []
    rw [cond_p h4, if_neg (by omega)]
  simp only []
  rw [cond_n h4, wI64 (n := p + k) (by omega) (by omega), oreq_p (by omega), if_pos (by omega)]
  obtain ⟨q, rfl⟩ := Int.eq_ofNat_of_zero_le (show 0 ≤ p by omega)
  obtain ⟨j, rfl⟩ := Int.eq_ofNat_of_zero_le (show 0 ≤ k by omega)
  have e : ((q : Int) + j).toNat - (q : Int).toNat = j := by omega
  rw [e]
  simp only [Int.toNat_natCast]
  generalize ht : (s.drop q).take j = t
  have hl : t.length = j := by rw [← ht]; simp; omega
  have key := iter_eq (step := fun st => octet_Get_s1 t st.1 st.2) (fun st => (((st.1.toNat * 256 ^ (j - st.2.toNat) + valL (t.drop st.2.toNat) : Nat) : Int), true)) (fun st => 0 ≤ st.1 ∧ 0 ≤ st.2 ∧ st.2 ≤ j ∧ st.1.toNat < 256 ^ st.2.toNat) (fun st => (j - st.2).toNat) ?_ FUEL (0, 0) ⟨by simp, by simp, by simp, by simp⟩ (by rw [FUEL_eq]; simp only; omega)
  · rw [key]; simp
  rintro ⟨n, x⟩ ⟨g1, g2, g3, g4⟩
  simp only at g1 g2 g3 g4 ⊢
  obtain ⟨i, rfl⟩ := Int.eq_ofNat_of_zero_le g2
  obtain ⟨v, rfl⟩ := Int.eq_ofNat_of_zero_le g1
  simp only [Int.toNat_natCast] at g4 ⊢
  unfold octet_Get_s1
  by_cases hp : i < j
  · have hlt : i < t.length := by omega
    have hb := t[i].toNat_lt
    have hv := pow_step g4 (by omega)
    refine .inr ⟨(((v * 256 + t[i].toNat : Nat) : Int), ((i + 1 : Nat) : Int)), ?_, ⟨by simp only; omega, by simp only; omega, by simp only; omega, ?_⟩, by simp only; omega, ?_⟩
    · rw [cond_p (by omega), oreq_p (by omega)]
      have e1 : (bI t)[(i : Int).toNat]? = some (t[i].toNat : Int) := by simp [bI, hlt]
      rw [e1, Option.bind_some]
      have e2 : iorI .u64 (wI .u64 ((v : Int) * 2 ^ 8)) (wI .u64 (t[i].toNat : Int)) = ((v * 256 + t[i].toNat : Nat) : Int) := by
        rw [wU64 (by omega) (by omega), wU64 (by omega) (by omega), iorU64_low 8 (by omega) (by omega) (by omega) (by omega) (by omega)]; omega
      simp only [e2]
      rw [wI64 (by omega) (by omega)]; rfl
    · simp only [Int.toNat_natCast]
      rw [Nat.pow_succ]; omega
    · simp only [Int.toNat_natCast]
      rw [List.drop_eq_getElem_cons hlt, val_cons]
      have e3 : (t.drop (i + 1)).length = j - (i + 1) := by simp; omega
      have e4 : j - i = (j - (i + 1)) + 1 := by omega
      rw [e3, e4, Nat.pow_succ, Nat.add_mul, Nat.mul_assoc, Nat.mul_comm 256, Nat.add_assoc]
  · refine .inl ?_
    obtain rfl : i = j := by omega
    rw [cond_n (by omega)]
    simp [← hl]
theorem R02_Get_eq {s : List UInt8} {p k : Int} (hs : s.length < 2 ^ 61) : R02_Get s p k = some (getS s p k) := by
  unfold R02_Get R02_GetF getS
  by_cases h1 : k < 1
  · rw [cond_p h1, if_neg (by omega)]
  by_cases h2 : k > 8
  · rw [cond_n h1, cond_p h2, if_neg (by omega)]
  by_cases h3 : p < 0
  · rw [cond_n h1, cond_n h2, cond_p h3, if_neg (by omega)]
  by_cases h5 : p > s.length
  · rw [cond_n h1, cond_n h2, cond_n h3, cond_p h5, if_neg (by omega)]
  rw [cond_n h1, cond_n h2, cond_n h3, cond_n h5, wI64 (n := (s.length : Int) - p) (by omega) (by omega)]
  by_cases h4 : k > (s.length : Int) - p
  · simp only []
    rw [cond_p h4, if_neg (by omega)]
  simp only []
  rw [cond_n h4, if_pos (by omega)]
  obtain ⟨q, rfl⟩ := Int.eq_ofNat_of_zero_le (show 0 ≤ p by omega)
  obtain ⟨j, rfl⟩ := Int.eq_ofNat_of_zero_le (show 0 ≤ k by omega)
  simp only [Int.toNat_natCast]
  generalize ht : (s.drop q).take j = t
  have hl : t.length = j := by rw [← ht]; simp; omega
  have key := iter_eq (step := fun st => R02_Get_s1 s (q : Int) (j : Int) st.1 st.2) (fun st => (((st.1.toNat * 256 ^ (j - st.2.toNat) + valL (t.drop st.2.toNat) : Nat) : Int), true)) (fun st => 0 ≤ st.1 ∧ 0 ≤ st.2 ∧ st.2 ≤ j ∧ st.1.toNat < 256 ^ st.2.toNat) (fun st => (j - st.2).toNat) ?_ FUEL (0, 0) ⟨by simp, by simp, by simp, by simp⟩ (by rw [FUEL_eq]; simp only; omega)
  · rw [key]; simp
  rintro ⟨n, x⟩ ⟨g1, g2, g3, g4⟩
  simp only at g1 g2 g3 g4 ⊢
  obtain ⟨i, rfl⟩ := Int.eq_ofNat_of_zero_le g2
  obtain ⟨v, rfl⟩ := Int.eq_ofNat_of_zero_le g1
  simp only [Int.toNat_natCast] at g4 ⊢
  unfold R02_Get_s1
  by_cases hp : i < j
  · have hlt : i < t.length := by omega
    have hb := t[i].toNat_lt
    have hv := pow_step g4 (by omega)
    refine .inr ⟨(((v * 256 + t[i].toNat : Nat) : Int), ((i + 1 : Nat) : Int)), ?_, ⟨by simp only; omega, by simp only; omega, by simp only; omega, ?_⟩, by simp only; omega, ?_⟩
    · rw [cond_p (by omega), wI64 (n := (q : Int) + i) (by omega) (by omega), oreq_p (by omega)]
      have e0 : ((q : Int) + i).toNat = q + i := by omega
      have e1 : s[q + i]? = some t[i] := by
        subst ht
        rw [List.getElem?_eq_getElem (by omega)]
        simp
      rw [e0, e1, Option.bind_some]
      have e2 : wI .u64 ((wI .u64 ((v : Int) * 256)) + (wI .u64 (t[i].toNat : Int))) = ((v * 256 + t[i].toNat : Nat) : Int) := by
        rw [wU64 (n := (v : Int) * 256) (by omega) (by omega), wU64 (n := (t[i].toNat : Int)) (by omega) (by omega), wU64 (by omega) (by omega)]; omega
      simp only [e2]
      rw [wI64 (by omega) (by omega)]; rfl
    · simp only [Int.toNat_natCast]
      rw [Nat.pow_succ]; omega
    · simp only [Int.toNat_natCast]
      rw [List.drop_eq_getElem_cons hlt, val_cons]
      have e3 : (t.drop (i + 1)).length = j - (i + 1) := by simp; omega
      have e4 : j - i = (j - (i + 1)) + 1 := by omega
      rw [e3, e4, Nat.pow_succ, Nat.add_mul, Nat.mul_assoc, Nat.mul_comm 256, Nat.add_assoc]
  · refine .inl ?_
    obtain rfl : i = j := by omega
    rw [cond_n (by omega)]
    simp [← hl]
theorem R02_Must_eq {s : List UInt8} {p k : Int} (hs : s.length < 2 ^ 61) : R02_Must s p k = some (wI .i64 (getS s p k).1) := by
  unfold R02_Must R02_MustF
  rw [R02_Get_eq hs]; rfl
end Go.Vm.Code

namespace Go.Vm.Code
open Go Go.Vm Go.Proofs
set_option maxRecDepth 100000
set_option maxHeartbeats 4000000
set_option linter.unusedVariables false

/-! cloakroom/check.Set -/
def check_SetF (octet_Put : Int → Int → Option (List UInt8)) (s : List UInt8) (ata1 : Int) (k : Int) (n : Int) : Option (List UInt8) :=
  (octet_Put n k).bind fun p =>
  cond (p == [])
    (
    some (s))
    (
    cond (decide (ata1 < 0))
      (
      some (s))
      (
      let t := decide ((wI .i64 ((s.length : Int) - k)) < ata1)
      cond (t)
        (
        some (s))
        (
        oreq (decide ((0 : Int) ≤ ata1 ∧ ata1 ≤ (s.length : Int))) <|
        oreq (decide ((s.take ata1.toNat).length + p.length < 2 ^ 63)) <|
        oreq (decide ((0 : Int) ≤ (wI .i64 (ata1 + k)) ∧ (wI .i64 (ata1 + k)) ≤ (s.length : Int))) <|
        let t1 := (s.drop (wI .i64 (ata1 + k)).toNat).take (s.length - (wI .i64 (ata1 + k)).toNat)
        oreq (decide (((s.take ata1.toNat) ++ p).length + t1.length < 2 ^ 63)) <|
        some (((s.take ata1.toNat) ++ p) ++ t1))))
def rx65 (x : List UInt8) : SRes := ⟨.string ⟨⟨x⟩⟩, [], []⟩
def r65 (g : (List UInt8) → Int → Int → Int → Option (List UInt8)) : Dec := dV asS fun (y0 : List UInt8) => dV (asI .i64) fun (y1 : Int) => dV (asI .i64) fun (y2 : Int) => dV (asI .u64) fun (y3 : Int) => dEnd (ofG (g y0 y1 y2 y3) rx65)
theorem r65_c {g : (List UInt8) → Int → Int → Int → Option (List UInt8)} {y0 : List UInt8} {y1 : Int} {y2 : Int} {y3 : Int} {x : List UInt8} (hx : g y0 y1 y2 y3 = some x) : r65 g [.string ⟨⟨y0⟩⟩, .int .i64 y1, .int .i64 y2, .int .u64 y3] [] = some (rx65 x) := (dV_eq (asS_c)).trans ((dV_eq (asI_c _)).trans ((dV_eq (asI_c _)).trans ((dV_eq (asI_c _)).trans (ofG_eq hx))))
def s65 (g : (List UInt8) → Int → Int → Int → Option (List UInt8)) : Summ := ⟨[.v, .v, .v, .v], r65 g⟩
theorem r65_eq {g : (List UInt8) → Int → Int → Int → Option (List UInt8)} {y0 : List UInt8} {y1 : Int} {y2 : Int} {y3 : Int} {x : List UInt8} (hx : g y0 y1 y2 y3 = some x) : (s65 g).run [.string ⟨⟨y0⟩⟩, .int .i64 y1, .int .i64 y2, .int .u64 y3] [] = some (rx65 x) := r65_c hx
abbrev sums65 (octet_Put : Int → Int → Option (List UInt8)) : List (Nat × Summ) := [(62, s62 octet_Put)]
theorem leads65 (octet_Put : Int → Int → Option (List UInt8)) (hS : SumsOK Try.prog (aget (sums65 octet_Put))) (s : List UInt8) (ata1 : Int) (k : Int) (n : Int) (res : List UInt8) (h : check_SetF octet_Put s ata1 k n = some res) :
    Leads Try.prog 65 0 ⟨⟨65, 39, [(0, .string ⟨⟨s⟩⟩), (1, .int .i64 ata1), (2, .int .i64 k), (3, .int .u64 n)], [.code k65_11], [], false, none⟩, [], [], 0⟩ (fun v H _ => Res 0 (rx65 res) v H) := by
  unfold check_SetF at h
  refine ev_ok tab_ok hS true 3000 ?_
  conv => whnf
  obtain ⟨p, hy, h2⟩ := obind.elim h; clear h; have h := h2; clear h2
  refine sumK.introF [] (sumRun_of (aqs := [.int .u64 n, .int .i64 k]) (ws := []) (n := 0) (m := 0) (t' := 0) (ra_cons rfl rfl (ra_cons rfl rfl ra_nil)) rfl (by rfl) (r62_eq hy) rfl rfl rfl rfl wb_nil an_nil rfl) ?_
  conv => whnf
  refine br.h h ?_ ?_ ?_
  · rfl
  · clear h; intro hb h; conv => whnf
    all_goals (cases h)
    all_goals exact Res.of [] rfl nw_0 (by decide) js_0 wr_0
  clear h; intro hb h; conv => whnf
  refine br.h h ?_ ?_ ?_
  · rfl
  · clear h; intro hb h; conv => whnf
    all_goals (cases h)
    all_goals exact Res.of [] rfl nw_0 (by decide) js_0 wr_0
  clear h; intro hb h; conv => whnf
  let t : Bool := decide ((wI .i64 ((s.length : Int) - k)) < ata1)
  refine br.h h ?_ ?_ ?_
  · rfl
  · clear h; intro hb h; conv => whnf
    all_goals (cases h)
    all_goals exact Res.of [] rfl nw_0 (by decide) js_0 wr_0
  clear h; intro hb h; conv => whnf
  replace h := oreq.elim h; have hb := h.1; replace h := h.2
  first | (refine req.intro hb ?_; conv => whnf) | skip
  replace h := oreq.elim h; have hb := h.1; replace h := h.2
  first | (refine req.intro hb ?_; conv => whnf) | skip
  replace h := oreq.elim h; have hb := h.1; replace h := h.2
  first | (refine req.intro hb ?_; conv => whnf) | skip
  let t1 : List UInt8 := (s.drop (wI .i64 (ata1 + k)).toNat).take (s.length - (wI .i64 (ata1 + k)).toNat)
  replace h := oreq.elim h; have hb := h.1; replace h := h.2
  first | (refine req.intro hb ?_; conv => whnf) | skip
  all_goals (cases h)
  all_goals exact Res.of [] rfl nw_0 (by decide) js_0 wr_0
theorem ok65 (octet_Put : Int → Int → Option (List UInt8)) (hS : SumsOK Try.prog (aget (sums65 octet_Put))) : SumOK Try.prog 65 (s65 (check_SetF octet_Put)) := by
  refine SumOK.of_leads tab_ok (fun ar os r ha hr => ?_) ⟨Try.f65, rfl, by decide, rfl⟩
  replace hr : r65 (check_SetF octet_Put) ar (conts os) = some r := hr
  unfold r65 at hr
  generalize hc : conts os = C at hr
  have hq := dV.elim hr; clear hr; obtain ⟨v0, l1, y0, rfl, e0, hr⟩ := hq; obtain rfl := asS_eq _ _ e0
  have hq := dV.elim hr; clear hr; obtain ⟨v1, l2, y1, rfl, e1, hr⟩ := hq; obtain rfl := asI_eq _ _ _ e1
  have hq := dV.elim hr; clear hr; obtain ⟨v2, l3, y2, rfl, e2, hr⟩ := hq; obtain rfl := asI_eq _ _ _ e2
  have hq := dV.elim hr; clear hr; obtain ⟨v3, l4, y3, rfl, e3, hr⟩ := hq; obtain rfl := asI_eq _ _ _ e3
  have hq := dEnd.elim hr; clear hr; obtain ⟨rfl, rfl, hr⟩ := hq
  have hq := ofG.elim hr; clear hr; obtain ⟨x, h, rfl⟩ := hq
  obtain rfl := kinds_nil hc
  exact ⟨_, rfl, leads65 octet_Put hS _ _ _ _ x h⟩
def check_Set : (List UInt8) → Int → Int → Int → Option (List UInt8) := check_SetF octet_Put
theorem lift65 : SumOK Try.prog 65 (s65 check_Set) := ok65 octet_Put (SumsOK.of_tab ⟨lift62, trivial⟩)
end Go.Vm.Code

namespace Go.Vm.Code
open Go Go.Vm Go.Proofs
set_option maxRecDepth 100000
set_option maxHeartbeats 4000000
set_option linter.unusedVariables false

/-! cloakroom/cloakroomref03.Set -/
def R03_SetF (R02_Get : (List UInt8) → Int → Int → Option (Int × Bool)) (R02_Put : Int → Int → Option (List UInt8)) (s : List UInt8) (ata1 : Int) (k : Int) (n : Int) : Option (List UInt8) :=
  (R02_Get s ata1 k).bind fun xg =>
  cond (!xg.2)
    (
    some (s))
    (
    oreq (decide ((0 : Int) ≤ ata1 ∧ ata1 ≤ (s.length : Int))) <|
    (R02_Put n k).bind fun p =>
    oreq (decide ((s.take ata1.toNat).length + p.length < 2 ^ 63)) <|
    oreq (decide ((0 : Int) ≤ (wI .i64 (ata1 + k)) ∧ (wI .i64 (ata1 + k)) ≤ (s.length : Int))) <|
    let t := (s.drop (wI .i64 (ata1 + k)).toNat).take (s.length - (wI .i64 (ata1 + k)).toNat)
    oreq (decide (((s.take ata1.toNat) ++ p).length + t.length < 2 ^ 63)) <|
    some (((s.take ata1.toNat) ++ p) ++ t))
def rx69 (x : List UInt8) : SRes := ⟨.string ⟨⟨x⟩⟩, [], []⟩
def r69 (g : (List UInt8) → Int → Int → Int → Option (List UInt8)) : Dec := dV asS fun (y0 : List UInt8) => dV (asI .i64) fun (y1 : Int) => dV (asI .i64) fun (y2 : Int) => dV (asI .u64) fun (y3 : Int) => dEnd (ofG (g y0 y1 y2 y3) rx69)
theorem r69_c {g : (List UInt8) → Int → Int → Int → Option (List UInt8)} {y0 : List UInt8} {y1 : Int} {y2 : Int} {y3 : Int} {x : List UInt8} (hx : g y0 y1 y2 y3 = some x) : r69 g [.string ⟨⟨y0⟩⟩, .int .i64 y1, .int .i64 y2, .int .u64 y3] [] = some (rx69 x) := (dV_eq (asS_c)).trans ((dV_eq (asI_c _)).trans ((dV_eq (asI_c _)).trans ((dV_eq (asI_c _)).trans (ofG_eq hx))))
def s69 (g : (List UInt8) → Int → Int → Int → Option (List UInt8)) : Summ := ⟨[.v, .v, .v, .v], r69 g⟩
theorem r69_eq {g : (List UInt8) → Int → Int → Int → Option (List UInt8)} {y0 : List UInt8} {y1 : Int} {y2 : Int} {y3 : Int} {x : List UInt8} (hx : g y0 y1 y2 y3 = some x) : (s69 g).run [.string ⟨⟨y0⟩⟩, .int .i64 y1, .int .i64 y2, .int .u64 y3] [] = some (rx69 x) := r69_c hx
abbrev sums69 (R02_Get : (List UInt8) → Int → Int → Option (Int × Bool)) (R02_Put : Int → Int → Option (List UInt8)) : List (Nat × Summ) := [(114, s114 R02_Get), (67, s67 R02_Put)]
theorem leads69 (R02_Get : (List UInt8) → Int → Int → Option (Int × Bool)) (R02_Put : Int → Int → Option (List UInt8)) (hS : SumsOK Try.prog (aget (sums69 R02_Get R02_Put))) (s : List UInt8) (ata1 : Int) (k : Int) (n : Int) (res : List UInt8) (h : R03_SetF R02_Get R02_Put s ata1 k n = some res) :
    Leads Try.prog 69 0 ⟨⟨69, 34, [(0, .string ⟨⟨s⟩⟩), (1, .int .i64 ata1), (2, .int .i64 k), (3, .int .u64 n)], [.code k69_11], [], false, none⟩, [], [], 0⟩ (fun v H _ => Res 0 (rx69 res) v H) := by
  unfold R03_SetF at h
  refine ev_ok tab_ok hS true 3000 ?_
  conv => whnf
  obtain ⟨xg, hy, h2⟩ := obind.elim h; clear h; have h := h2; clear h2
  refine sumK.introF [] (sumRun_of (aqs := [.string ⟨⟨s⟩⟩, .int .i64 ata1, .int .i64 k]) (ws := []) (n := 0) (m := 0) (t' := 0) (ra_cons rfl rfl (ra_cons rfl rfl (ra_cons rfl rfl ra_nil))) rfl (by rfl) (r114_eq hy) rfl rfl rfl rfl wb_nil an_nil rfl) ?_
  conv => whnf
  refine br.h h ?_ ?_ ?_
  · rfl
  · clear h; intro hb h; conv => whnf
    all_goals (cases h)
    all_goals exact Res.of [] rfl nw_0 (by decide) js_0 wr_0
  clear h; intro hb h; conv => whnf
  replace h := oreq.elim h; have hb := h.1; replace h := h.2
  first | (refine req.intro hb ?_; conv => whnf) | skip
  obtain ⟨p, hy, h2⟩ := obind.elim h; clear h; have h := h2; clear h2
  refine sumK.introF [] (sumRun_of (aqs := [.int .u64 n, .int .i64 k]) (ws := []) (n := 0) (m := 0) (t' := 5) (ra_cons rfl rfl (ra_cons rfl rfl ra_nil)) rfl (by rfl) (r67_eq hy) rfl rfl rfl rfl wb_nil an_nil rfl) ?_
  conv => whnf
  replace h := oreq.elim h; have hb := h.1; replace h := h.2
  first | (refine req.intro hb ?_; conv => whnf) | skip
  replace h := oreq.elim h; have hb := h.1; replace h := h.2
  first | (refine req.intro hb ?_; conv => whnf) | skip
  let t : List UInt8 := (s.drop (wI .i64 (ata1 + k)).toNat).take (s.length - (wI .i64 (ata1 + k)).toNat)
  replace h := oreq.elim h; have hb := h.1; replace h := h.2
  first | (refine req.intro hb ?_; conv => whnf) | skip
  all_goals (cases h)
  all_goals exact Res.of [] rfl nw_0 (by decide) js_0 wr_0
theorem ok69 (R02_Get : (List UInt8) → Int → Int → Option (Int × Bool)) (R02_Put : Int → Int → Option (List UInt8)) (hS : SumsOK Try.prog (aget (sums69 R02_Get R02_Put))) : SumOK Try.prog 69 (s69 (R03_SetF R02_Get R02_Put)) := by
  refine SumOK.of_leads tab_ok (fun ar os r ha hr => ?_) ⟨Try.f69, rfl, by decide, rfl⟩
  replace hr : r69 (R03_SetF R02_Get R02_Put) ar (conts os) = some r := hr
  unfold r69 at hr
  generalize hc : conts os = C at hr
  have hq := dV.elim hr; clear hr; obtain ⟨v0, l1, y0, rfl, e0, hr⟩ := hq; obtain rfl := asS_eq _ _ e0
  have hq := dV.elim hr; clear hr; obtain ⟨v1, l2, y1, rfl, e1, hr⟩ := hq; obtain rfl := asI_eq _ _ _ e1
  have hq := dV.elim hr; clear hr; obtain ⟨v2, l3, y2, rfl, e2, hr⟩ := hq; obtain rfl := asI_eq _ _ _ e2
  have hq := dV.elim hr; clear hr; obtain ⟨v3, l4, y3, rfl, e3, hr⟩ := hq; obtain rfl := asI_eq _ _ _ e3
  have hq := dEnd.elim hr; clear hr; obtain ⟨rfl, rfl, hr⟩ := hq
  have hq := ofG.elim hr; clear hr; obtain ⟨x, h, rfl⟩ := hq
  obtain rfl := kinds_nil hc
  exact ⟨_, rfl, leads69 R02_Get R02_Put hS _ _ _ _ x h⟩
def R03_Set : (List UInt8) → Int → Int → Int → Option (List UInt8) := R03_SetF R02_Get R02_Put
theorem lift69 : SumOK Try.prog 69 (s69 R03_Set) := ok69 R02_Get R02_Put (SumsOK.of_tab ⟨lift114, lift67, trivial⟩)
end Go.Vm.Code

namespace Go.Vm.Code
open Go Go.Vm Go.Proofs
set_option maxRecDepth 100000
set_option maxHeartbeats 4000000
set_option linter.unusedVariables false

/-! cloakroom/cloakroomref03.Add -/
def R03_Add_s1 (l : List Int) (n1 : Int) : Option (Sum Int Int) :=
  cond (decide (n1 > 65535))
    (
    let t := wI .i64 ((n1.tmod 65536) + (wI .i64 (n1.tdiv 65536)))
    some (.inl t))
    (
    some (.inr (n1)))
def R03_Add_s2 (l : List Int) (n : Int) (i : Int) : Option (Sum (Int × Int) Int) :=
  cond (decide (i < (l.length : Int)))
    (
    oreq (decide ((0 : Int) ≤ i ∧ i < (l.length : Int))) <|
    (l[i.toNat]?).bind fun (e : Int) =>
    some (.inl (wI .i64 (n + e), wI .i64 (i + 1))))
    (
    (iter (fun st => R03_Add_s1 l st) FUEL n).bind fun o => some (.inr (o)))
def R03_AddF (l : List Int) : Option Int :=
  iter (fun st => R03_Add_s2 l st.1 st.2) FUEL (0, 0)
def rx115 (x : Int) : SRes := ⟨.int .i64 x, [], [none]⟩
def r115 (g : (List Int) → Option Int) : Dec := dSl 0 1 (unL (asI .i64)) fun (y0 : List Int) => dEnd (ofG (g y0) rx115)
theorem r115_c {g : (List Int) → Option Int} {y0 : List Int} {x : Int} (hx : g y0 = some x) : r115 g [.slice (some ⟨0, 0, none⟩) y0.length 1] [some (vI .i64 y0)] = some (rx115 x) := (dSl_eq (unI_vI _ _)).trans (ofG_eq hx)
def s115 (g : (List Int) → Option Int) : Summ := ⟨[.sl 1], r115 g⟩
theorem r115_eq {g : (List Int) → Option Int} {y0 : List Int} {x : Int} (hx : g y0 = some x) : (s115 g).run [.slice (some ⟨0, 0, none⟩) y0.length 1] [some (vI .i64 y0)] = some (rx115 x) := r115_c hx
abbrev sums115 : List (Nat × Summ) := []
def head115_1 (l : List Int) (n1 : Int) : VM :=
  ⟨⟨115, 25, [(3, .int .i64 n1)], [.code k115_19, .inLoop k115_19, .inBlock 2, .code k115_23], [], false, none⟩, [], [(0, .row false (vI .i64 l))], 1⟩
def head115_2 (l : List Int) (n : Int) (i : Int) : VM :=
  ⟨⟨115, 25, [(0, .slice (some ⟨0, 0, none⟩) l.length 1), (3, .int .i64 n), (4, .int .i64 i)], [.code k115_10, .inLoop k115_10, .inBlock 0, .code k115_24], [], false, none⟩, [], [(0, .row false (vI .i64 l))], 1⟩
theorem loop115_1 (hS : SumsOK Try.prog (aget (sums115))) (l : List Int) (res : Int) : ∀ fuel (st : Int) (o : Int), iter (fun st => R03_Add_s1 l st) fuel st = some o → (o = res) →
    Leads Try.prog 115 1 (head115_1 l st) (fun v H _ => Res 1 (rx115 res) v H) := by
  intro fuel st o h hc
  refine iter_leads (head := fun st => head115_1 l st) (C := fun o => (o = res)) ?_ fuel st o h hc
  clear h hc o st fuel
  intro n1 o h hc
  replace h : R03_Add_s1 l n1 = some o := h
  show Leads Try.prog 115 1 (head115_1 l n1) (fun v H _ => Res 1 (rx115 res) v H)
  unfold R03_Add_s1 at h
  refine ev_ok tab_ok hS true 3000 ?_
  conv => whnf
  refine br.h2 h ?_ ?_ ?_
  · rfl
  · clear h; intro hb h; conv => whnf
    all_goals (cases h; cases hc)
    all_goals exact Res.of [] rfl nw_0 (by decide) js_0 (wr_n wr_0)
  clear h; intro hb h; conv => whnf
  let t : Int := wI .i64 ((n1.tmod 65536) + (wI .i64 (n1.tdiv 65536)))
  cases h; simp only [Sum.elim_inl, head115_1] at hc
  refine Leads.re hc [(0, 0)] rfl ?_ ?_ <;> (repeat' first | exact trivial | refine ⟨⟨_, rfl, rfl⟩, ?_⟩ | refine ⟨⟨_, _, rfl, rfl, .rowF (vI_flat _ _) id⟩, ?_⟩ | refine ⟨⟨_, _, rfl, rfl, .rowF (vS_flat _) id⟩, ?_⟩ | refine ⟨⟨_, _, rfl, rfl, .rowF (vB_flat _) id⟩, ?_⟩ | refine ⟨⟨_, _, rfl, rfl, .rowF (vT_flat (by first | exact cudp_Head_flat | exact capi_Addr_flat | exact coctet_Reader_flat) _) id⟩, ?_⟩ | refine ⟨⟨_, _, rfl, rfl, .tyF (vI_flat _ _)⟩, ?_⟩ | refine ⟨⟨_, _, rfl, rfl, .ty rfl⟩, ?_⟩ | refine ⟨⟨_, _, rfl, rfl, .cells rfl⟩, ?_⟩ | refine ⟨⟨_, _, rfl, rfl, .row rfl id⟩, ?_⟩ | refine ⟨⟨_, _, rfl, rfl, .cr rfl⟩, ?_⟩ | refine ⟨⟨_, _, rfl, rfl, .rc rfl⟩, ?_⟩ | refine ⟨⟨_, _, rfl, rfl, .marks⟩, ?_⟩ | refine ⟨⟨_, _, rfl, rfl, .siter _ _⟩, ?_⟩ | refine ⟨⟨_, _, rfl, rfl, .loop rfl rfl rfl rfl (by repeat' first | exact trivial | refine ⟨rfl, ?_⟩) rfl rfl rfl rfl⟩, ?_⟩)
theorem loop115_2 (hS : SumsOK Try.prog (aget (sums115))) (l : List Int) (res : Int) : ∀ fuel (st : Int × Int) (o : Int), iter (fun st => R03_Add_s2 l st.1 st.2) fuel st = some o → (o = res) →
    Leads Try.prog 115 1 (head115_2 l st.1 st.2) (fun v H _ => Res 1 (rx115 res) v H) := by
  intro fuel st o h hc
  refine iter_leads (head := fun st => head115_2 l st.1 st.2) (C := fun o => (o = res)) ?_ fuel st o h hc
  clear h hc o st fuel
  intro st o h hc
  obtain ⟨n, i⟩ := st
  replace h : R03_Add_s2 l n i = some o := h
  show Leads Try.prog 115 1 (head115_2 l n i) (fun v H _ => Res 1 (rx115 res) v H)
  unfold R03_Add_s2 at h
  refine ev_ok tab_ok hS true 3000 ?_
  conv => whnf
  refine br.h2 h ?_ ?_ ?_
  · rfl
  · clear h; intro hb h; conv => whnf
    obtain ⟨y, hy, h2⟩ := obind.elim h; cases h2
    have hl := loop115_1 hS _ res _ _ _ hy hc; simp only [head115_1] at hl
    refine Leads.re hl [(0, 0)] rfl ?_ ?_ <;> (repeat' first | exact trivial | refine ⟨⟨_, rfl, rfl⟩, ?_⟩ | refine ⟨⟨_, _, rfl, rfl, .rowF (vI_flat _ _) id⟩, ?_⟩ | refine ⟨⟨_, _, rfl, rfl, .rowF (vS_flat _) id⟩, ?_⟩ | refine ⟨⟨_, _, rfl, rfl, .rowF (vB_flat _) id⟩, ?_⟩ | refine ⟨⟨_, _, rfl, rfl, .rowF (vT_flat (by first | exact cudp_Head_flat | exact capi_Addr_flat | exact coctet_Reader_flat) _) id⟩, ?_⟩ | refine ⟨⟨_, _, rfl, rfl, .tyF (vI_flat _ _)⟩, ?_⟩ | refine ⟨⟨_, _, rfl, rfl, .ty rfl⟩, ?_⟩ | refine ⟨⟨_, _, rfl, rfl, .cells rfl⟩, ?_⟩ | refine ⟨⟨_, _, rfl, rfl, .row rfl id⟩, ?_⟩ | refine ⟨⟨_, _, rfl, rfl, .cr rfl⟩, ?_⟩ | refine ⟨⟨_, _, rfl, rfl, .rc rfl⟩, ?_⟩ | refine ⟨⟨_, _, rfl, rfl, .marks⟩, ?_⟩ | refine ⟨⟨_, _, rfl, rfl, .siter _ _⟩, ?_⟩ | refine ⟨⟨_, _, rfl, rfl, .loop rfl rfl rfl rfl (by repeat' first | exact trivial | refine ⟨rfl, ?_⟩) rfl rfl rfl rfl⟩, ?_⟩)
  clear h; intro hb h; conv => whnf
  replace h := oreq.elim h; have hb := h.1; replace h := h.2
  first | (refine req.intro hb ?_; conv => whnf) | skip
  obtain ⟨e, hy, h2⟩ := obind.elim h; clear h; have h := h2; clear h2
  refine rd.I hy (by first | rfl | (rw [Nat.zero_add, Nat.mul_one]; done) | omega) ?_
  conv => whnf
  cases h; simp only [Sum.elim_inl, head115_2] at hc
  refine Leads.re hc [(0, 0)] rfl ?_ ?_ <;> (repeat' first | exact trivial | refine ⟨⟨_, rfl, rfl⟩, ?_⟩ | refine ⟨⟨_, _, rfl, rfl, .rowF (vI_flat _ _) id⟩, ?_⟩ | refine ⟨⟨_, _, rfl, rfl, .rowF (vS_flat _) id⟩, ?_⟩ | refine ⟨⟨_, _, rfl, rfl, .rowF (vB_flat _) id⟩, ?_⟩ | refine ⟨⟨_, _, rfl, rfl, .rowF (vT_flat (by first | exact cudp_Head_flat | exact capi_Addr_flat | exact coctet_Reader_flat) _) id⟩, ?_⟩ | refine ⟨⟨_, _, rfl, rfl, .tyF (vI_flat _ _)⟩, ?_⟩ | refine ⟨⟨_, _, rfl, rfl, .ty rfl⟩, ?_⟩ | refine ⟨⟨_, _, rfl, rfl, .cells rfl⟩, ?_⟩ | refine ⟨⟨_, _, rfl, rfl, .row rfl id⟩, ?_⟩ | refine ⟨⟨_, _, rfl, rfl, .cr rfl⟩, ?_⟩ | refine ⟨⟨_, _, rfl, rfl, .rc rfl⟩, ?_⟩ | refine ⟨⟨_, _, rfl, rfl, .marks⟩, ?_⟩ | refine ⟨⟨_, _, rfl, rfl, .siter _ _⟩, ?_⟩ | refine ⟨⟨_, _, rfl, rfl, .loop rfl rfl rfl rfl (by repeat' first | exact trivial | refine ⟨rfl, ?_⟩) rfl rfl rfl rfl⟩, ?_⟩)
theorem leads115 (hS : SumsOK Try.prog (aget (sums115))) (l : List Int) (res : Int) (h : R03_AddF l = some res) :
    Leads Try.prog 115 1 ⟨⟨115, 25, [(0, .slice (some ⟨0, 0, none⟩) l.length 1)], [.code k115_27], [], false, none⟩, [], [(0, .row false (vI .i64 l))], 1⟩ (fun v H _ => Res 1 (rx115 res) v H) := by
  unfold R03_AddF at h
  refine ev_ok tab_ok hS true 3000 ?_
  conv => whnf
  have hl := loop115_2 hS _ res _ _ _ h rfl; simp only [head115_2] at hl
  refine Leads.re hl [(0, 0)] rfl ?_ ?_ <;> (repeat' first | exact trivial | refine ⟨⟨_, rfl, rfl⟩, ?_⟩ | refine ⟨⟨_, _, rfl, rfl, .rowF (vI_flat _ _) id⟩, ?_⟩ | refine ⟨⟨_, _, rfl, rfl, .rowF (vS_flat _) id⟩, ?_⟩ | refine ⟨⟨_, _, rfl, rfl, .rowF (vB_flat _) id⟩, ?_⟩ | refine ⟨⟨_, _, rfl, rfl, .rowF (vT_flat (by first | exact cudp_Head_flat | exact capi_Addr_flat | exact coctet_Reader_flat) _) id⟩, ?_⟩ | refine ⟨⟨_, _, rfl, rfl, .tyF (vI_flat _ _)⟩, ?_⟩ | refine ⟨⟨_, _, rfl, rfl, .ty rfl⟩, ?_⟩ | refine ⟨⟨_, _, rfl, rfl, .cells rfl⟩, ?_⟩ | refine ⟨⟨_, _, rfl, rfl, .row rfl id⟩, ?_⟩ | refine ⟨⟨_, _, rfl, rfl, .cr rfl⟩, ?_⟩ | refine ⟨⟨_, _, rfl, rfl, .rc rfl⟩, ?_⟩ | refine ⟨⟨_, _, rfl, rfl, .marks⟩, ?_⟩ | refine ⟨⟨_, _, rfl, rfl, .siter _ _⟩, ?_⟩ | refine ⟨⟨_, _, rfl, rfl, .loop rfl rfl rfl rfl (by repeat' first | exact trivial | refine ⟨rfl, ?_⟩) rfl rfl rfl rfl⟩, ?_⟩)
theorem ok115 (hS : SumsOK Try.prog (aget (sums115))) : SumOK Try.prog 115 (s115 (R03_AddF)) := by
  refine SumOK.of_leads tab_ok (fun ar os r ha hr => ?_) ⟨Try.f115, rfl, by decide, rfl⟩
  replace hr : r115 (R03_AddF) ar (conts os) = some r := hr
  unfold r115 at hr
  generalize hc : conts os = C at hr
  have hq := dSl.elim hr; clear hr; obtain ⟨c0, l1, C, y0, rfl, rfl, e0, hr⟩ := hq; obtain rfl := unI_eq e0
  have hq := dEnd.elim hr; clear hr; obtain ⟨rfl, rfl, hr⟩ := hq
  have hq := ofG.elim hr; clear hr; obtain ⟨x, h, rfl⟩ := hq
  obtain ⟨os, rfl, ha, hc⟩ := kinds_some ha hc
  obtain rfl := kinds_nil hc
  exact ⟨_, rfl, leads115 hS _ x h⟩
def R03_Add : (List Int) → Option Int := R03_AddF
theorem lift115 : SumOK Try.prog 115 (s115 R03_Add) := ok115 (SumsOK.of_tab trivial)
end Go.Vm.Code

namespace Go.Vm.Code
open Go Go.Vm Go.Proofs
set_option maxRecDepth 100000
set_option maxHeartbeats 4000000
set_option linter.unusedVariables false

/-! cloakroom/cloakroomref03.Words -/
def R03_Words_s1 (R02_Must : (List UInt8) → Int → Int → Option Int) (s1 : List UInt8) (i : Int) (out1 : List Int) : Option (Sum ((List UInt8) × Int × (List Int)) (List Int)) :=
  cond (decide (i < (s1.length : Int)))
    (
    (R02_Must s1 i 2).bind fun m =>
    oreq (decide ((out1.length + 1) * 8 ≤ 2 ^ 47)) <|
    let row := out1 ++ [m]
    some (.inl (s1, wI .i64 (i + 2), row)))
    (
    some (.inr (out1)))
def R03_WordsF (R02_Must : (List UInt8) → Int → Int → Option Int) (s : List UInt8) : Option (List Int) :=
  cond (((s.length : Int).tmod 2) == 1)
    (
    oreq (decide (s.length + 1 < 2 ^ 63)) <|
    iter (fun st => R03_Words_s1 R02_Must st.1 st.2.1 st.2.2) FUEL (s ++ [0], 0, []))
    (
    iter (fun st => R03_Words_s1 R02_Must st.1 st.2.1 st.2.2) FUEL (s, 0, []))
def rx116 (x : List Int) : SRes := ⟨.slice (some ⟨0, 0, none⟩) x.length 1, [(vI .i64 x)], []⟩
def r116 (g : (List UInt8) → Option (List Int)) : Dec := dV asS fun (y0 : List UInt8) => dEnd (ofG (g y0) rx116)
theorem r116_c {g : (List UInt8) → Option (List Int)} {y0 : List UInt8} {x : List Int} (hx : g y0 = some x) : r116 g [.string ⟨⟨y0⟩⟩] [] = some (rx116 x) := (dV_eq (asS_c)).trans (ofG_eq hx)
def s116 (g : (List UInt8) → Option (List Int)) : Summ := ⟨[.v], r116 g⟩
theorem r116_eq {g : (List UInt8) → Option (List Int)} {y0 : List UInt8} {x : List Int} (hx : g y0 = some x) : (s116 g).run [.string ⟨⟨y0⟩⟩] [] = some (rx116 x) := r116_c hx
abbrev sums116 (R02_Must : (List UInt8) → Int → Int → Option Int) : List (Nat × Summ) := [(74, s74 R02_Must)]
def head116_1 (s1 : List UInt8) (i : Int) (out1 : List Int) : VM :=
  ⟨⟨116, 24, [(0, .string ⟨⟨s1⟩⟩), (3, .slice (some ⟨0, 0, none⟩) out1.length 1), (4, .int .i64 i)], [.code k116_14, .inLoop k116_14, .inBlock 0, .code k116_19], [], false, none⟩, [], [(0, .row true (vI .i64 out1))], 1⟩
theorem loop116_1 (R02_Must : (List UInt8) → Int → Int → Option Int) (hS : SumsOK Try.prog (aget (sums116 R02_Must))) (res : List Int) : ∀ fuel (st : (List UInt8) × Int × (List Int)) (o : List Int), iter (fun st => R03_Words_s1 R02_Must st.1 st.2.1 st.2.2) fuel st = some o → (o = res) →
    Leads Try.prog 116 0 (head116_1 st.1 st.2.1 st.2.2) (fun v H _ => Res 0 (rx116 res) v H) := by
  intro fuel st o h hc
  refine iter_leads (head := fun st => head116_1 st.1 st.2.1 st.2.2) (C := fun o => (o = res)) ?_ fuel st o h hc
  clear h hc o st fuel
  intro st o h hc
  obtain ⟨s1, i, out1⟩ := st
  replace h : R03_Words_s1 R02_Must s1 i out1 = some o := h
  show Leads Try.prog 116 0 (head116_1 s1 i out1) (fun v H _ => Res 0 (rx116 res) v H)
  unfold R03_Words_s1 at h
  refine ev_ok tab_ok hS true 3000 ?_
  conv => whnf
  refine br.h2 h ?_ ?_ ?_
  · rfl
  · clear h; intro hb h; conv => whnf
    all_goals (cases h; cases hc)
    all_goals exact Res.of [0] rfl (nw_s (rn_I) (hs_row rfl) nw_0) (by decide) (js_l (by decide) js_0) wr_0
  clear h; intro hb h; conv => whnf
  obtain ⟨m, hy, h2⟩ := obind.elim h; clear h; have h := h2; clear h2
  refine sumK.introF [] (sumRun_of (aqs := [.string ⟨⟨s1⟩⟩, .int .i64 i, .int .i64 2]) (ws := []) (n := 0) (m := 0) (t' := 1) (ra_cons rfl rfl (ra_cons rfl rfl (ra_cons rfl rfl ra_nil))) rfl (by rfl) (r74_eq hy) rfl rfl rfl rfl wb_nil an_nil rfl) ?_
  conv => whnf
  replace h := oreq.elim h; have hb := h.1; replace h := h.2
  refine req.intro (ap_req (of_decide_eq_true hb) (by first | rfl | omega | (simp; done) | (simp; omega) | (simp at *; omega)) rfl (by first | rfl | omega | (simp; done) | (simp; omega) | (simp at *; omega)) (by first | rfl | exact vI_one _ _ | exact vS_one _ | exact vB_one _ | exact vT_one (by first | exact cudp_Head_one | exact capi_Addr_one | exact coctet_Reader_one) _ | (rw [ofBytes_vI]; exact vI_one _ _) | simp [vI_one, vS_one, vB_one, vI_drop, vI_take, vS_drop, vS_take]) rfl) ?_
  conv => whnf
  let row : List Int := out1 ++ [m]
  refine pk_apI (xs := out1) (ys := [m]) rfl (by first | rfl | omega) (by first | (simp; done) | (simp; omega)) (by first | (simp; done) | (simp; omega)) ?_
  conv => whnf
  cases h; simp only [Sum.elim_inl, head116_1] at hc
  refine Leads.re hc [(0, 2)] rfl ?_ ?_ <;> (repeat' first | exact trivial | refine ⟨⟨_, rfl, rfl⟩, ?_⟩ | refine ⟨⟨_, _, rfl, rfl, .rowF (vI_flat _ _) id⟩, ?_⟩ | refine ⟨⟨_, _, rfl, rfl, .rowF (vS_flat _) id⟩, ?_⟩ | refine ⟨⟨_, _, rfl, rfl, .rowF (vB_flat _) id⟩, ?_⟩ | refine ⟨⟨_, _, rfl, rfl, .rowF (vT_flat (by first | exact cudp_Head_flat | exact capi_Addr_flat | exact coctet_Reader_flat) _) id⟩, ?_⟩ | refine ⟨⟨_, _, rfl, rfl, .tyF (vI_flat _ _)⟩, ?_⟩ | refine ⟨⟨_, _, rfl, rfl, .ty rfl⟩, ?_⟩ | refine ⟨⟨_, _, rfl, rfl, .cells rfl⟩, ?_⟩ | refine ⟨⟨_, _, rfl, rfl, .row rfl id⟩, ?_⟩ | refine ⟨⟨_, _, rfl, rfl, .cr rfl⟩, ?_⟩ | refine ⟨⟨_, _, rfl, rfl, .rc rfl⟩, ?_⟩ | refine ⟨⟨_, _, rfl, rfl, .marks⟩, ?_⟩ | refine ⟨⟨_, _, rfl, rfl, .siter _ _⟩, ?_⟩ | refine ⟨⟨_, _, rfl, rfl, .loop rfl rfl rfl rfl (by repeat' first | exact trivial | refine ⟨rfl, ?_⟩) rfl rfl rfl rfl⟩, ?_⟩)
theorem leads116 (R02_Must : (List UInt8) → Int → Int → Option Int) (hS : SumsOK Try.prog (aget (sums116 R02_Must))) (s : List UInt8) (res : List Int) (h : R03_WordsF R02_Must s = some res) :
    Leads Try.prog 116 0 ⟨⟨116, 24, [(0, .string ⟨⟨s⟩⟩)], [.code k116_23], [], false, none⟩, [], [], 0⟩ (fun v H _ => Res 0 (rx116 res) v H) := by
  unfold R03_WordsF at h
  refine ev_ok tab_ok hS true 3000 ?_
  conv => whnf
  refine br.h2 h ?_ ?_ ?_
  · rfl
  · clear h; intro hb h; conv => whnf
    have hl := loop116_1 R02_Must hS res _ _ _ h rfl; simp only [head116_1] at hl
    refine Leads.nilT 3 1 ?_
    refine Leads.re hl [(0, 0)] rfl ?_ ?_ <;> (repeat' first | exact trivial | refine ⟨⟨_, rfl, rfl⟩, ?_⟩ | refine ⟨⟨_, _, rfl, rfl, .rowF (vI_flat _ _) id⟩, ?_⟩ | refine ⟨⟨_, _, rfl, rfl, .rowF (vS_flat _) id⟩, ?_⟩ | refine ⟨⟨_, _, rfl, rfl, .rowF (vB_flat _) id⟩, ?_⟩ | refine ⟨⟨_, _, rfl, rfl, .rowF (vT_flat (by first | exact cudp_Head_flat | exact capi_Addr_flat | exact coctet_Reader_flat) _) id⟩, ?_⟩ | refine ⟨⟨_, _, rfl, rfl, .tyF (vI_flat _ _)⟩, ?_⟩ | refine ⟨⟨_, _, rfl, rfl, .ty rfl⟩, ?_⟩ | refine ⟨⟨_, _, rfl, rfl, .cells rfl⟩, ?_⟩ | refine ⟨⟨_, _, rfl, rfl, .row rfl id⟩, ?_⟩ | refine ⟨⟨_, _, rfl, rfl, .cr rfl⟩, ?_⟩ | refine ⟨⟨_, _, rfl, rfl, .rc rfl⟩, ?_⟩ | refine ⟨⟨_, _, rfl, rfl, .marks⟩, ?_⟩ | refine ⟨⟨_, _, rfl, rfl, .siter _ _⟩, ?_⟩ | refine ⟨⟨_, _, rfl, rfl, .loop rfl rfl rfl rfl (by repeat' first | exact trivial | refine ⟨rfl, ?_⟩) rfl rfl rfl rfl⟩, ?_⟩)
  clear h; intro hb h; conv => whnf
  replace h := oreq.elim h; have hb := h.1; replace h := h.2
  first | (refine req.intro hb ?_; conv => whnf) | skip
  have hl := loop116_1 R02_Must hS res _ _ _ h rfl; simp only [head116_1] at hl
  refine Leads.nilT 3 1 ?_
  refine Leads.re hl [(0, 0)] rfl ?_ ?_ <;> (repeat' first | exact trivial | refine ⟨⟨_, rfl, rfl⟩, ?_⟩ | refine ⟨⟨_, _, rfl, rfl, .rowF (vI_flat _ _) id⟩, ?_⟩ | refine ⟨⟨_, _, rfl, rfl, .rowF (vS_flat _) id⟩, ?_⟩ | refine ⟨⟨_, _, rfl, rfl, .rowF (vB_flat _) id⟩, ?_⟩ | refine ⟨⟨_, _, rfl, rfl, .rowF (vT_flat (by first | exact cudp_Head_flat | exact capi_Addr_flat | exact coctet_Reader_flat) _) id⟩, ?_⟩ | refine ⟨⟨_, _, rfl, rfl, .tyF (vI_flat _ _)⟩, ?_⟩ | refine ⟨⟨_, _, rfl, rfl, .ty rfl⟩, ?_⟩ | refine ⟨⟨_, _, rfl, rfl, .cells rfl⟩, ?_⟩ | refine ⟨⟨_, _, rfl, rfl, .row rfl id⟩, ?_⟩ | refine ⟨⟨_, _, rfl, rfl, .cr rfl⟩, ?_⟩ | refine ⟨⟨_, _, rfl, rfl, .rc rfl⟩, ?_⟩ | refine ⟨⟨_, _, rfl, rfl, .marks⟩, ?_⟩ | refine ⟨⟨_, _, rfl, rfl, .siter _ _⟩, ?_⟩ | refine ⟨⟨_, _, rfl, rfl, .loop rfl rfl rfl rfl (by repeat' first | exact trivial | refine ⟨rfl, ?_⟩) rfl rfl rfl rfl⟩, ?_⟩)
theorem ok116 (R02_Must : (List UInt8) → Int → Int → Option Int) (hS : SumsOK Try.prog (aget (sums116 R02_Must))) : SumOK Try.prog 116 (s116 (R03_WordsF R02_Must)) := by
  refine SumOK.of_leads tab_ok (fun ar os r ha hr => ?_) ⟨Try.f116, rfl, by decide, rfl⟩
  replace hr : r116 (R03_WordsF R02_Must) ar (conts os) = some r := hr
  unfold r116 at hr
  generalize hc : conts os = C at hr
  have hq := dV.elim hr; clear hr; obtain ⟨v0, l1, y0, rfl, e0, hr⟩ := hq; obtain rfl := asS_eq _ _ e0
  have hq := dEnd.elim hr; clear hr; obtain ⟨rfl, rfl, hr⟩ := hq
  have hq := ofG.elim hr; clear hr; obtain ⟨x, h, rfl⟩ := hq
  obtain rfl := kinds_nil hc
  exact ⟨_, rfl, leads116 R02_Must hS _ x h⟩
def R03_Words : (List UInt8) → Option (List Int) := R03_WordsF R02_Must
theorem lift116 : SumOK Try.prog 116 (s116 R03_Words) := ok116 R02_Must (SumsOK.of_tab ⟨lift74, trivial⟩)
end Go.Vm.Code

namespace Go.Vm.Code
open Go Go.Vm Go.Proofs
set_option maxRecDepth 100000
set_option maxHeartbeats 4000000
set_option linter.unusedVariables false

/-! cloakroom/cloakroomref03.Sum -/
def R03_SumF (R03_Add : (List Int) → Option Int) (R03_Words : (List UInt8) → Option (List Int)) (s : List UInt8) : Option Int :=
  (R03_Words s).bind fun w =>
  (R03_Add w).bind fun a =>
  some (a)
def rx75 (x : Int) : SRes := ⟨.int .i64 x, [], []⟩
def r75 (g : (List UInt8) → Option Int) : Dec := dV asS fun (y0 : List UInt8) => dEnd (ofG (g y0) rx75)
theorem r75_c {g : (List UInt8) → Option Int} {y0 : List UInt8} {x : Int} (hx : g y0 = some x) : r75 g [.string ⟨⟨y0⟩⟩] [] = some (rx75 x) := (dV_eq (asS_c)).trans (ofG_eq hx)
def s75 (g : (List UInt8) → Option Int) : Summ := ⟨[.v], r75 g⟩
theorem r75_eq {g : (List UInt8) → Option Int} {y0 : List UInt8} {x : Int} (hx : g y0 = some x) : (s75 g).run [.string ⟨⟨y0⟩⟩] [] = some (rx75 x) := r75_c hx
abbrev sums75 (R03_Add : (List Int) → Option Int) (R03_Words : (List UInt8) → Option (List Int)) : List (Nat × Summ) := [(115, s115 R03_Add), (116, s116 R03_Words)]
theorem leads75 (R03_Add : (List Int) → Option Int) (R03_Words : (List UInt8) → Option (List Int)) (hS : SumsOK Try.prog (aget (sums75 R03_Add R03_Words))) (s : List UInt8) (res : Int) (h : R03_SumF R03_Add R03_Words s = some res) :
    Leads Try.prog 75 0 ⟨⟨75, 6, [(0, .string ⟨⟨s⟩⟩)], [.code k75_3], [], false, none⟩, [], [], 0⟩ (fun v H _ => Res 0 (rx75 res) v H) := by
  unfold R03_SumF at h
  refine ev_ok tab_ok hS true 3000 ?_
  conv => whnf
  obtain ⟨w, hy, h2⟩ := obind.elim h; clear h; have h := h2; clear h2
  refine sumK.introF [] (sumRun_of (aqs := [.string ⟨⟨s⟩⟩]) (ws := []) (n := 1) (m := 0) (t' := 1) (ra_cons rfl rfl ra_nil) rfl (by rfl) (r116_eq hy) rfl rfl rfl rfl wb_nil (an_cons (rn_I) an_nil) rfl) ?_
  conv => whnf
  obtain ⟨a, hy, h2⟩ := obind.elim h; clear h; have h := h2; clear h2
  refine sumK.introF [] (sumRun_of (aqs := [.slice (some ⟨0, 0, none⟩) (w : List Int).length 1]) (ws := [.win 0 0 (w.length * 1) false]) (n := 0) (m := 0) (t' := 1) (ra_cons (by first | rfl | exact ra_allI rfl rfl (by first | rfl | omega) (by first | rfl | (simp; done)) | exact ra_slI rfl rfl (by first | rfl | omega) (by first | rfl | omega) (by first | omega | (simp at *; omega))) rfl ra_nil) rfl (by rfl) (r115_eq hy) rfl rfl rfl rfl (wb_skip rfl wb_nil) an_nil rfl) ?_
  conv => whnf
  all_goals (cases h)
  all_goals exact Res.of [] rfl nw_0 (by decide) js_0 wr_0
theorem ok75 (R03_Add : (List Int) → Option Int) (R03_Words : (List UInt8) → Option (List Int)) (hS : SumsOK Try.prog (aget (sums75 R03_Add R03_Words))) : SumOK Try.prog 75 (s75 (R03_SumF R03_Add R03_Words)) := by
  refine SumOK.of_leads tab_ok (fun ar os r ha hr => ?_) ⟨Try.f75, rfl, by decide, rfl⟩
  replace hr : r75 (R03_SumF R03_Add R03_Words) ar (conts os) = some r := hr
  unfold r75 at hr
  generalize hc : conts os = C at hr
  have hq := dV.elim hr; clear hr; obtain ⟨v0, l1, y0, rfl, e0, hr⟩ := hq; obtain rfl := asS_eq _ _ e0
  have hq := dEnd.elim hr; clear hr; obtain ⟨rfl, rfl, hr⟩ := hq
  have hq := ofG.elim hr; clear hr; obtain ⟨x, h, rfl⟩ := hq
  obtain rfl := kinds_nil hc
  exact ⟨_, rfl, leads75 R03_Add R03_Words hS _ x h⟩
def R03_Sum : (List UInt8) → Option Int := R03_SumF R03_Add R03_Words
theorem lift75 : SumOK Try.prog 75 (s75 R03_Sum) := ok75 R03_Add R03_Words (SumsOK.of_tab ⟨lift115, lift116, trivial⟩)
end Go.Vm.Code

namespace Go.Vm.Code
open Go Go.Vm Go.Proofs
set_option maxRecDepth 100000
set_option maxHeartbeats 4000000
set_option linter.unusedVariables false

/-! cloakroom/cloakroomref03.Of -/
def R03_OfF (R03_Sum : (List UInt8) → Option Int) (s : List UInt8) : Option Int :=
  (R03_Sum s).bind fun s1 =>
  some (wI .i64 (65535 - s1))
def rx68 (x : Int) : SRes := ⟨.int .i64 x, [], []⟩
def r68 (g : (List UInt8) → Option Int) : Dec := dV asS fun (y0 : List UInt8) => dEnd (ofG (g y0) rx68)
theorem r68_c {g : (List UInt8) → Option Int} {y0 : List UInt8} {x : Int} (hx : g y0 = some x) : r68 g [.string ⟨⟨y0⟩⟩] [] = some (rx68 x) := (dV_eq (asS_c)).trans (ofG_eq hx)
def s68 (g : (List UInt8) → Option Int) : Summ := ⟨[.v], r68 g⟩
theorem r68_eq {g : (List UInt8) → Option Int} {y0 : List UInt8} {x : Int} (hx : g y0 = some x) : (s68 g).run [.string ⟨⟨y0⟩⟩] [] = some (rx68 x) := r68_c hx
abbrev sums68 (R03_Sum : (List UInt8) → Option Int) : List (Nat × Summ) := [(75, s75 R03_Sum)]
theorem leads68 (R03_Sum : (List UInt8) → Option Int) (hS : SumsOK Try.prog (aget (sums68 R03_Sum))) (s : List UInt8) (res : Int) (h : R03_OfF R03_Sum s = some res) :
    Leads Try.prog 68 0 ⟨⟨68, 6, [(0, .string ⟨⟨s⟩⟩)], [.code k68_3], [], false, none⟩, [], [], 0⟩ (fun v H _ => Res 0 (rx68 res) v H) := by
  unfold R03_OfF at h
  refine ev_ok tab_ok hS true 3000 ?_
  conv => whnf
  obtain ⟨s1, hy, h2⟩ := obind.elim h; clear h; have h := h2; clear h2
  refine sumK.introF [] (sumRun_of (aqs := [.string ⟨⟨s⟩⟩]) (ws := []) (n := 0) (m := 0) (t' := 0) (ra_cons rfl rfl ra_nil) rfl (by rfl) (r75_eq hy) rfl rfl rfl rfl wb_nil an_nil rfl) ?_
  conv => whnf
  all_goals (cases h)
  all_goals exact Res.of [] rfl nw_0 (by decide) js_0 wr_0
theorem ok68 (R03_Sum : (List UInt8) → Option Int) (hS : SumsOK Try.prog (aget (sums68 R03_Sum))) : SumOK Try.prog 68 (s68 (R03_OfF R03_Sum)) := by
  refine SumOK.of_leads tab_ok (fun ar os r ha hr => ?_) ⟨Try.f68, rfl, by decide, rfl⟩
  replace hr : r68 (R03_OfF R03_Sum) ar (conts os) = some r := hr
  unfold r68 at hr
  generalize hc : conts os = C at hr
  have hq := dV.elim hr; clear hr; obtain ⟨v0, l1, y0, rfl, e0, hr⟩ := hq; obtain rfl := asS_eq _ _ e0
  have hq := dEnd.elim hr; clear hr; obtain ⟨rfl, rfl, hr⟩ := hq
  have hq := ofG.elim hr; clear hr; obtain ⟨x, h, rfl⟩ := hq
  obtain rfl := kinds_nil hc
  exact ⟨_, rfl, leads68 R03_Sum hS _ x h⟩
def R03_Of : (List UInt8) → Option Int := R03_OfF R03_Sum
theorem lift68 : SumOK Try.prog 68 (s68 R03_Of) := ok68 R03_Sum (SumsOK.of_tab ⟨lift75, trivial⟩)
end Go.Vm.Code

namespace Go.Vm.Code
open Go Go.Vm Go.Proofs
set_option maxRecDepth 100000
set_option maxHeartbeats 4000000
set_option linter.unusedVariables false

/-! cloakroom/check.Of -/
def check_OfF (check_Sum : (List UInt8) → Option Int) (s : List UInt8) : Option Int :=
  (check_Sum s).bind fun s1 =>
  some (wI .i64 (65535 - s1))
def rx64 (x : Int) : SRes := ⟨.int .i64 x, [], []⟩
def r64 (g : (List UInt8) → Option Int) : Dec := dV asS fun (y0 : List UInt8) => dEnd (ofG (g y0) rx64)
theorem r64_c {g : (List UInt8) → Option Int} {y0 : List UInt8} {x : Int} (hx : g y0 = some x) : r64 g [.string ⟨⟨y0⟩⟩] [] = some (rx64 x) := (dV_eq (asS_c)).trans (ofG_eq hx)
def s64 (g : (List UInt8) → Option Int) : Summ := ⟨[.v], r64 g⟩
theorem r64_eq {g : (List UInt8) → Option Int} {y0 : List UInt8} {x : Int} (hx : g y0 = some x) : (s64 g).run [.string ⟨⟨y0⟩⟩] [] = some (rx64 x) := r64_c hx
abbrev sums64 (check_Sum : (List UInt8) → Option Int) : List (Nat × Summ) := [(113, s113 check_Sum)]
theorem leads64 (check_Sum : (List UInt8) → Option Int) (hS : SumsOK Try.prog (aget (sums64 check_Sum))) (s : List UInt8) (res : Int) (h : check_OfF check_Sum s = some res) :
    Leads Try.prog 64 0 ⟨⟨64, 6, [(0, .string ⟨⟨s⟩⟩)], [.code k64_3], [], false, none⟩, [], [], 0⟩ (fun v H _ => Res 0 (rx64 res) v H) := by
  unfold check_OfF at h
  refine ev_ok tab_ok hS true 3000 ?_
  conv => whnf
  obtain ⟨s1, hy, h2⟩ := obind.elim h; clear h; have h := h2; clear h2
  refine sumK.introF [] (sumRun_of (aqs := [.string ⟨⟨s⟩⟩]) (ws := []) (n := 0) (m := 0) (t' := 0) (ra_cons rfl rfl ra_nil) rfl (by rfl) (r113_eq hy) rfl rfl rfl rfl wb_nil an_nil rfl) ?_
  conv => whnf
  all_goals (cases h)
  all_goals exact Res.of [] rfl nw_0 (by decide) js_0 wr_0
theorem ok64 (check_Sum : (List UInt8) → Option Int) (hS : SumsOK Try.prog (aget (sums64 check_Sum))) : SumOK Try.prog 64 (s64 (check_OfF check_Sum)) := by
  refine SumOK.of_leads tab_ok (fun ar os r ha hr => ?_) ⟨Try.f64, rfl, by decide, rfl⟩
  replace hr : r64 (check_OfF check_Sum) ar (conts os) = some r := hr
  unfold r64 at hr
  generalize hc : conts os = C at hr
  have hq := dV.elim hr; clear hr; obtain ⟨v0, l1, y0, rfl, e0, hr⟩ := hq; obtain rfl := asS_eq _ _ e0
  have hq := dEnd.elim hr; clear hr; obtain ⟨rfl, rfl, hr⟩ := hq
  have hq := ofG.elim hr; clear hr; obtain ⟨x, h, rfl⟩ := hq
  obtain rfl := kinds_nil hc
  exact ⟨_, rfl, leads64 check_Sum hS _ x h⟩
def check_Of : (List UInt8) → Option Int := check_OfF check_Sum
theorem lift64 : SumOK Try.prog 64 (s64 check_Of) := ok64 check_Sum (SumsOK.of_tab ⟨lift113, trivial⟩)
end Go.Vm.Code

namespace Go.Vm.Code
open Go Go.Vm Go.Proofs
set_option maxRecDepth 100000
set_option maxHeartbeats 4000000
set_option linter.unusedVariables false

/-! cloakroom/check.Right -/
def check_RightF (check_Sum : (List UInt8) → Option Int) (s : List UInt8) : Option Bool :=
  (check_Sum s).bind fun s1 =>
  some (s1 == 65535)
def rx73 (x : Bool) : SRes := ⟨.bool x, [], []⟩
def r73 (g : (List UInt8) → Option Bool) : Dec := dV asS fun (y0 : List UInt8) => dEnd (ofG (g y0) rx73)
theorem r73_c {g : (List UInt8) → Option Bool} {y0 : List UInt8} {x : Bool} (hx : g y0 = some x) : r73 g [.string ⟨⟨y0⟩⟩] [] = some (rx73 x) := (dV_eq (asS_c)).trans (ofG_eq hx)
def s73 (g : (List UInt8) → Option Bool) : Summ := ⟨[.v], r73 g⟩
theorem r73_eq {g : (List UInt8) → Option Bool} {y0 : List UInt8} {x : Bool} (hx : g y0 = some x) : (s73 g).run [.string ⟨⟨y0⟩⟩] [] = some (rx73 x) := r73_c hx
abbrev sums73 (check_Sum : (List UInt8) → Option Int) : List (Nat × Summ) := [(113, s113 check_Sum)]
theorem leads73 (check_Sum : (List UInt8) → Option Int) (hS : SumsOK Try.prog (aget (sums73 check_Sum))) (s : List UInt8) (res : Bool) (h : check_RightF check_Sum s = some res) :
    Leads Try.prog 73 0 ⟨⟨73, 6, [(0, .string ⟨⟨s⟩⟩)], [.code k73_3], [], false, none⟩, [], [], 0⟩ (fun v H _ => Res 0 (rx73 res) v H) := by
  unfold check_RightF at h
  refine ev_ok tab_ok hS true 3000 ?_
  conv => whnf
  obtain ⟨s1, hy, h2⟩ := obind.elim h; clear h; have h := h2; clear h2
  refine sumK.introF [] (sumRun_of (aqs := [.string ⟨⟨s⟩⟩]) (ws := []) (n := 0) (m := 0) (t' := 0) (ra_cons rfl rfl ra_nil) rfl (by rfl) (r113_eq hy) rfl rfl rfl rfl wb_nil an_nil rfl) ?_
  conv => whnf
  all_goals (cases h)
  all_goals exact Res.of [] rfl nw_0 (by decide) js_0 wr_0
theorem ok73 (check_Sum : (List UInt8) → Option Int) (hS : SumsOK Try.prog (aget (sums73 check_Sum))) : SumOK Try.prog 73 (s73 (check_RightF check_Sum)) := by
  refine SumOK.of_leads tab_ok (fun ar os r ha hr => ?_) ⟨Try.f73, rfl, by decide, rfl⟩
  replace hr : r73 (check_RightF check_Sum) ar (conts os) = some r := hr
  unfold r73 at hr
  generalize hc : conts os = C at hr
  have hq := dV.elim hr; clear hr; obtain ⟨v0, l1, y0, rfl, e0, hr⟩ := hq; obtain rfl := asS_eq _ _ e0
  have hq := dEnd.elim hr; clear hr; obtain ⟨rfl, rfl, hr⟩ := hq
  have hq := ofG.elim hr; clear hr; obtain ⟨x, h, rfl⟩ := hq
  obtain rfl := kinds_nil hc
  exact ⟨_, rfl, leads73 check_Sum hS _ x h⟩
def check_Right : (List UInt8) → Option Bool := check_RightF check_Sum
theorem lift73 : SumOK Try.prog 73 (s73 check_Right) := ok73 check_Sum (SumsOK.of_tab ⟨lift113, trivial⟩)
end Go.Vm.Code

/- Chapter 3 in plain words: the other functions. -/
namespace Go.Vm.Code
open Go Go.Vm

theorem getS_two {s : List UInt8} {i : Nat} (h : i + 1 < s.length) : getS s (i : Int) 2 = (((s[i].toNat * 256 + s[i + 1].toNat : Nat) : Int), true) := by
  unfold getS
  rw [if_pos (by omega)]
  have e : (s.drop (i : Int).toNat).take (2 : Int).toNat = [s[i], s[i + 1]] := by
    show (s.drop i).take 2 = _
    rw [List.drop_eq_getElem_cons (by omega : i < s.length), List.drop_eq_getElem_cons h]; rfl
  rw [e]; simp [val_cons]
/-- the words of bytes -/
def wordsL : List UInt8 → List Int
  | [] => []
  | [b] => [((b.toNat * 256 : Nat) : Int)]
  | b :: c :: l => ((b.toNat * 256 + c.toNat : Nat) : Int) :: wordsL l
theorem wordsL_two {s : List UInt8} {i : Nat} (h : i + 1 < s.length) : wordsL (s.drop i) = ((s[i].toNat * 256 + s[i + 1].toNat : Nat) : Int) :: wordsL (s.drop (i + 2)) := by
  rw [List.drop_eq_getElem_cons (by omega : i < s.length), List.drop_eq_getElem_cons h]; rfl
theorem wordsL_pad : ∀ s : List UInt8, s.length % 2 = 1 → wordsL (s ++ [0]) = wordsL s
  | [], h => by simp at h
  | [b], _ => by
    show [((b.toNat * 256 + 0 : Nat) : Int)] = [((b.toNat * 256 : Nat) : Int)]
    rw [Nat.add_zero]
  | b :: c :: l, h => by
    have := wordsL_pad l (by simp at h; omega)
    simp only [List.cons_append, wordsL, this]
theorem wordsL_sum : ∀ s : List UInt8, (wordsL s).sum = (wsum s : Int)
  | [] => rfl
  | [b] => by simp only [wordsL, wsum, List.sum_cons, List.sum_nil, Int.add_zero]
  | b :: c :: l => by
    have := wordsL_sum l
    simp only [wordsL, wsum, List.sum_cons, this]; omega
theorem wordsL_rng : ∀ s : List UInt8, ∀ e ∈ wordsL s, 0 ≤ e ∧ e ≤ 65535
  | [], e, h => by simp [wordsL] at h
  | [b], e, h => by simp [wordsL] at h; have := b.toNat_lt; omega
  | b :: c :: l, e, h => by
    simp only [wordsL, List.mem_cons] at h
    rcases h with rfl | h
    · have := b.toNat_lt; have := c.toNat_lt; omega
    · exact wordsL_rng l e h
theorem wordsL_len : ∀ s : List UInt8, (wordsL s).length = (s.length + 1) / 2
  | [] => rfl
  | [b] => by simp [wordsL]
  | b :: c :: l => by
    have := wordsL_len l
    simp only [wordsL, List.length_cons, this]; omega

theorem R03_Words_loop {s : List UInt8} (h : s.length < 2 ^ 40) (he : s.length % 2 = 0) : iter (fun (st : List UInt8 × Int × List Int) => R03_Words_s1 R02_Must st.1 st.2.1 st.2.2) FUEL (s, 0, []) = some (wordsL s) := by
  have key := iter_eq (step := fun (st : List UInt8 × Int × List Int) => R03_Words_s1 R02_Must st.1 st.2.1 st.2.2) (fun st => st.2.2 ++ wordsL (s.drop st.2.1.toNat)) (fun st => st.1 = s ∧ ∃ i : Nat, st.2.1 = i ∧ i % 2 = 0 ∧ i ≤ s.length ∧ st.2.2.length ≤ i) (fun st => (s.length - st.2.1).toNat) ?_ FUEL (s, 0, []) ⟨rfl, 0, rfl, by omega, by omega, by simp⟩ (by rw [FUEL_eq]; simp only; omega)
  · rw [key]; simp
  rintro ⟨s1, p, out⟩ ⟨h1, i, h2, h3, h4, h5⟩
  simp only at h1 h2 h5 ⊢
  subst h1 h2
  unfold R03_Words_s1
  by_cases hi : i < s1.length
  · have hi2 : i + 1 < s1.length := by omega
    refine .inr ⟨(s1, ((i + 2 : Nat) : Int), out ++ [((s1[i].toNat * 256 + s1[i + 1].toNat : Nat) : Int)]), ?_, ⟨rfl, i + 2, rfl, by omega, by omega, by simp; omega⟩, by simp only; omega, ?_⟩
    · have b1 := s1[i].toNat_lt
      have b2 := s1[i + 1].toNat_lt
      rw [cond_p (by omega), R02_Must_eq (by omega), getS_two hi2, Option.bind_some, oreq_p (by omega), wI64 (by omega) (by omega), wI64 (by omega) (by omega)]; rfl
    · simp only [Int.toNat_natCast]
      rw [wordsL_two hi2]; simp
  · refine .inl ?_
    rw [cond_n (by omega)]
    simp [List.drop_eq_nil_of_le (by omega : s1.length ≤ i), wordsL]
theorem R03_Words_eq {s : List UInt8} (h : s.length < 2 ^ 39) : R03_Words s = some (wordsL s) := by
  unfold R03_Words R03_WordsF
  have ea : ((s.length : Int).tmod 2 == 1) = decide (s.length % 2 = 1) := by
    rw [Int.tmod_eq_emod_of_nonneg (by omega), Bool.eq_iff_iff, beq_iff_eq, decide_eq_true_eq]; omega
  rw [ea]
  by_cases h2 : s.length % 2 = 1
  · rw [cond_p h2, oreq_p (by omega), R03_Words_loop (by simp only [List.length_append, List.length_cons, List.length_nil]; omega) (by simp only [List.length_append, List.length_cons, List.length_nil]; omega), wordsL_pad s h2]
  · rw [cond_n h2, R03_Words_loop (by omega) (by omega)]
theorem R03_Add1_eq {l : List Int} {n : Int} (h0 : 0 ≤ n) (h1 : n < 2 ^ 62) : iter (fun st => R03_Add_s1 l st) FUEL n = some ((norm n.toNat : Nat) : Int) := by
  refine iter_eq (fun n => ((norm n.toNat : Nat) : Int)) (fun n => 0 ≤ n ∧ n < 2 ^ 62) (fun n => n.toNat) ?_ FUEL _ ⟨h0, h1⟩ (by rw [FUEL_eq]; omega)
  intro s ⟨a, b⟩
  unfold R03_Add_s1
  by_cases hs : s > 65535
  · refine .inr ⟨s % 65536 + s / 65536, ?_, ⟨by omega, by omega⟩, by omega, ?_⟩
    · rw [cond_p hs, Int.tdiv_eq_ediv_of_nonneg a, Int.tmod_eq_emod_of_nonneg a, wI64 (n := s / 65536) (by omega) (by omega), wI64 (by omega) (by omega)]
    · have : norm (s % 65536 + s / 65536).toNat = norm s.toNat :=
        (norm_eq (norm_le _) (by have := norm_mod (s % 65536 + s / 65536).toNat; omega) (by have := norm_zero (s % 65536 + s / 65536).toNat; omega)).symm
      rw [this]
  · refine .inl ?_
    rw [cond_n hs]
    have := norm_same (n := s.toNat) (by omega)
    simp only [this]
    rw [Int.toNat_of_nonneg a]
theorem sum_nonneg : ∀ {l : List Int}, (∀ e ∈ l, 0 ≤ e ∧ e ≤ 65535) → 0 ≤ l.sum
  | [], _ => by simp
  | x :: l, h => by
    have h1 := h x (by simp)
    have h2 := sum_nonneg (l := l) fun e he => h e (by simp [he])
    simp only [List.sum_cons]; omega
theorem R03_Add_eq {l : List Int} (hl : l.length < 2 ^ 40) (hr : ∀ e ∈ l, 0 ≤ e ∧ e ≤ 65535) : R03_Add l = some ((norm l.sum.toNat : Nat) : Int) := by
  unfold R03_Add R03_AddF
  have key := iter_eq (step := fun (st : Int × Int) => R03_Add_s2 l st.1 st.2) (fun st => ((norm (st.1 + (l.drop st.2.toNat).sum).toNat : Nat) : Int)) (fun st => 0 ≤ st.1 ∧ 0 ≤ st.2 ∧ st.2 ≤ l.length ∧ st.1 ≤ st.2 * 65535) (fun st => (l.length - st.2).toNat) ?_ FUEL (0, 0) ⟨by simp, by simp, by simp, by simp⟩ (by rw [FUEL_eq]; simp only; omega)
  · rw [key]; simp
  rintro ⟨n, p⟩ ⟨g1, g2, g3, g4⟩
  simp only at g1 g2 g3 g4 ⊢
  obtain ⟨i, rfl⟩ := Int.eq_ofNat_of_zero_le g2
  simp only [Int.toNat_natCast]
  unfold R03_Add_s2
  by_cases hi : i < l.length
  · have hx := hr l[i] (List.getElem_mem hi)
    refine .inr ⟨(n + l[i], ((i + 1 : Nat) : Int)), ?_, ⟨by simp only; omega, by simp only; omega, by simp only; omega, by simp only; omega⟩, by simp only; omega, ?_⟩
    · simp (disch := omega) only [cond_p, oreq_p, Int.toNat_natCast, List.getElem?_eq_getElem, Option.bind_some, wI64]; rfl
    · simp only [Int.toNat_natCast]
      rw [List.drop_eq_getElem_cons hi, List.sum_cons, Int.add_assoc]
  · refine .inl ?_
    rw [cond_n (by omega), R03_Add1_eq g1 (by omega), List.drop_eq_nil_of_le (by omega)]
    simp
theorem R03_Sum_eq {s : List UInt8} (h : s.length < 2 ^ 39) : R03_Sum s = some ((norm (wsum s) : Nat) : Int) := by
  unfold R03_Sum R03_SumF
  rw [R03_Words_eq h, Option.bind_some, R03_Add_eq (by rw [wordsL_len]; omega) (wordsL_rng s), wordsL_sum]; rfl

/-- a number put into bytes -/
def setS (s : List UInt8) (p k n : Int) : List UInt8 := if 1 ≤ k ∧ k ≤ 8 ∧ 0 ≤ p ∧ p + k ≤ s.length then s.take p.toNat ++ be n.toNat k.toNat ++ s.drop (p + k).toNat else s
theorem Set_eq {s : List UInt8} {p k n : Int} (hs : s.length < 2 ^ 40) (hn : 0 ≤ n) : check_Set s p k n = some (setS s p k n) := by
  unfold check_Set check_SetF setS
  rw [octet_Put_eq hn, Option.bind_some]
  unfold putS
  by_cases hk : 1 ≤ k ∧ k ≤ 8
  · rw [if_pos hk]
    have e : (be n.toNat k.toNat == []) = false := by
      rw [beq_eq_false_iff_ne]; intro h; have := congrArg List.length h; simp at this; omega
    rw [e, cond_false]
    by_cases h1 : p < 0
    · rw [cond_p h1, if_neg (by omega)]
    rw [cond_n h1, wI64 (n := (s.length : Int) - k) (by omega) (by omega)]
    by_cases h2 : (s.length : Int) - k < p
    · simp only []
      rw [cond_p h2, if_neg (by omega)]
    simp only []
    have e1 : (p + k).toNat = p.toNat + k.toNat := by omega
    have e2 : ((s.drop (p + k).toNat).take (s.length - (p + k).toNat)) = s.drop (p + k).toNat := List.take_of_length_le (by simp)
    rw [cond_n h2, oreq_p (by omega), wI64 (n := p + k) (by omega) (by omega), e2, oreq_p (by simp; omega), oreq_p (by omega), oreq_p (by simp; omega), if_pos (by omega)]
  · rw [if_neg hk, if_neg (by omega)]; rfl
theorem R03_Set_eq {s : List UInt8} {p k n : Int} (hs : s.length < 2 ^ 40) (hn : 0 ≤ n) (hn2 : n < 2 ^ 64) : R03_Set s p k n = some (setS s p k n) := by
  unfold R03_Set R03_SetF setS
  rw [R02_Get_eq (by omega), Option.bind_some]
  unfold getS
  by_cases hc : 1 ≤ k ∧ k ≤ 8 ∧ 0 ≤ p ∧ p + k ≤ s.length
  · rw [if_pos hc, if_pos hc]
    have e2 : ((s.drop (p + k).toNat).take (s.length - (p + k).toNat)) = s.drop (p + k).toNat := List.take_of_length_le (by simp)
    simp only [Bool.not_true, cond_false]
    rw [R02_Put_eq hn hn2, Option.bind_some, oreq_p (by omega), wI64 (n := p + k) (by omega) (by omega), e2]
    unfold putS
    rw [if_pos (by omega), oreq_p (by simp; omega), oreq_p (by omega), oreq_p (by simp; omega)]
  · rw [if_neg hc, if_neg hc]; rfl
theorem Of_eq {s : List UInt8} (h : s.length < 2 ^ 39) : check_Of s = some (65535 - ((norm (wsum s) : Nat) : Int)) := by
  unfold check_Of check_OfF
  have := norm_le (wsum s)
  rw [sum_eq s (by omega), Option.bind_some, wI64 (by omega) (by omega)]
theorem R03_Of_eq {s : List UInt8} (h : s.length < 2 ^ 39) : R03_Of s = some (65535 - ((norm (wsum s) : Nat) : Int)) := by
  unfold R03_Of R03_OfF
  have := norm_le (wsum s)
  rw [R03_Sum_eq h, Option.bind_some, wI64 (by omega) (by omega)]
theorem Right_eq {s : List UInt8} (h : s.length < 2 ^ 39) : check_Right s = some (((norm (wsum s) : Nat) : Int) == 65535) := by
  unfold check_Right check_RightF
  rw [sum_eq s (by omega), Option.bind_some]
end Go.Vm.Code

namespace Go.Vm.Code
open Go Go.Vm Go.Proofs
set_option maxRecDepth 100000
set_option maxHeartbeats 4000000
set_option linter.unusedVariables false

/-! cloakroom/addr.Right -/
def addr_RightF (a : api_Addr) : Option Bool :=
  cond (a.V6)
    (
    some (true))
    (
    cond (a.Hi == 0)
      (
      some (decide (a.Lo < 4294967296)))
      (
      some (false)))
def rx85 (x : Bool) : SRes := ⟨.bool x, [], []⟩
def r85 (g : api_Addr → Option Bool) : Dec := dV uvapi_Addr fun (y0 : api_Addr) => dEnd (ofG (g y0) rx85)
theorem r85_c {g : api_Addr → Option Bool} {y0 : api_Addr} {x : Bool} (hx : g y0 = some x) : r85 g [.agg ⟨[.bool y0.V6, .int .u64 y0.Hi, .int .u64 y0.Lo]⟩] [] = some (rx85 x) := (dV_eq (uvapi_Addr_c _)).trans (ofG_eq hx)
def s85 (g : api_Addr → Option Bool) : Summ := ⟨[.v], r85 g⟩
theorem r85_eq {g : api_Addr → Option Bool} {y0 : api_Addr} {x : Bool} (hx : g y0 = some x) : (s85 g).run [.agg ⟨[.bool y0.V6, .int .u64 y0.Hi, .int .u64 y0.Lo]⟩] [] = some (rx85 x) := r85_c hx
abbrev sums85 : List (Nat × Summ) := []
theorem leads85 (hS : SumsOK Try.prog (aget (sums85))) (a : api_Addr) (res : Bool) (h : addr_RightF a = some res) :
    Leads Try.prog 85 0 ⟨⟨85, 15, [(0, .agg ⟨[.bool a.V6, .int .u64 a.Hi, .int .u64 a.Lo]⟩)], [.code k85_3], [], false, none⟩, [], [], 0⟩ (fun v H _ => Res 0 (rx85 res) v H) := by
  unfold addr_RightF at h
  refine ev_ok tab_ok hS true 3000 ?_
  conv => whnf
  refine br.h h ?_ ?_ ?_
  · rfl
  · clear h; intro hb h; conv => whnf
    all_goals (cases h)
    all_goals exact Res.of [] rfl nw_0 (by decide) js_0 wr_0
  clear h; intro hb h; conv => whnf
  refine br.h h ?_ ?_ ?_
  · rfl
  · clear h; intro hb h; conv => whnf
    all_goals (cases h)
    all_goals exact Res.of [] rfl nw_0 (by decide) js_0 wr_0
  clear h; intro hb h; conv => whnf
  all_goals (cases h)
  all_goals exact Res.of [] rfl nw_0 (by decide) js_0 wr_0
theorem ok85 (hS : SumsOK Try.prog (aget (sums85))) : SumOK Try.prog 85 (s85 (addr_RightF)) := by
  refine SumOK.of_leads tab_ok (fun ar os r ha hr => ?_) ⟨Try.f85, rfl, by decide, rfl⟩
  replace hr : r85 (addr_RightF) ar (conts os) = some r := hr
  unfold r85 at hr
  generalize hc : conts os = C at hr
  have hq := dV.elim hr; clear hr; obtain ⟨v0, l1, y0, rfl, e0, hr⟩ := hq; obtain rfl := uvapi_Addr_eq _ _ e0
  have hq := dEnd.elim hr; clear hr; obtain ⟨rfl, rfl, hr⟩ := hq
  have hq := ofG.elim hr; clear hr; obtain ⟨x, h, rfl⟩ := hq
  obtain rfl := kinds_nil hc
  exact ⟨_, rfl, leads85 hS _ x h⟩
def addr_Right : api_Addr → Option Bool := addr_RightF
theorem lift85 : SumOK Try.prog 85 (s85 addr_Right) := ok85 (SumsOK.of_tab trivial)
end Go.Vm.Code

namespace Go.Vm.Code
open Go Go.Vm Go.Proofs
set_option maxRecDepth 100000
set_option maxHeartbeats 4000000
set_option linter.unusedVariables false

/-! cloakroom/addr.Put -/
def addr_PutF (addr_Right : api_Addr → Option Bool) (octet_Put : Int → Int → Option (List UInt8)) (a : api_Addr) : Option (List UInt8) :=
  (addr_Right a).bind fun xr =>
  cond (!xr)
    (
    some ([]))
    (
    cond (a.V6)
      (
      (octet_Put a.Hi 8).bind fun p =>
      (octet_Put a.Lo 8).bind fun p1 =>
      oreq (decide (p.length + p1.length < 2 ^ 63)) <|
      some (p ++ p1))
      (
      (octet_Put a.Lo 4).bind fun p2 =>
      some (p2)))
def rx78 (x : List UInt8) : SRes := ⟨.string ⟨⟨x⟩⟩, [], []⟩
def r78 (g : api_Addr → Option (List UInt8)) : Dec := dV uvapi_Addr fun (y0 : api_Addr) => dEnd (ofG (g y0) rx78)
theorem r78_c {g : api_Addr → Option (List UInt8)} {y0 : api_Addr} {x : List UInt8} (hx : g y0 = some x) : r78 g [.agg ⟨[.bool y0.V6, .int .u64 y0.Hi, .int .u64 y0.Lo]⟩] [] = some (rx78 x) := (dV_eq (uvapi_Addr_c _)).trans (ofG_eq hx)
def s78 (g : api_Addr → Option (List UInt8)) : Summ := ⟨[.v], r78 g⟩
theorem r78_eq {g : api_Addr → Option (List UInt8)} {y0 : api_Addr} {x : List UInt8} (hx : g y0 = some x) : (s78 g).run [.agg ⟨[.bool y0.V6, .int .u64 y0.Hi, .int .u64 y0.Lo]⟩] [] = some (rx78 x) := r78_c hx
abbrev sums78 (addr_Right : api_Addr → Option Bool) (octet_Put : Int → Int → Option (List UInt8)) : List (Nat × Summ) := [(85, s85 addr_Right), (62, s62 octet_Put)]
theorem leads78 (addr_Right : api_Addr → Option Bool) (octet_Put : Int → Int → Option (List UInt8)) (hS : SumsOK Try.prog (aget (sums78 addr_Right octet_Put))) (a : api_Addr) (res : List UInt8) (h : addr_PutF addr_Right octet_Put a = some res) :
    Leads Try.prog 78 0 ⟨⟨78, 20, [(0, .agg ⟨[.bool a.V6, .int .u64 a.Hi, .int .u64 a.Lo]⟩)], [.code k78_15], [], false, none⟩, [], [], 0⟩ (fun v H _ => Res 0 (rx78 res) v H) := by
  unfold addr_PutF at h
  refine ev_ok tab_ok hS true 3000 ?_
  conv => whnf
  obtain ⟨xr, hy, h2⟩ := obind.elim h; clear h; have h := h2; clear h2
  refine sumK.introF [] (sumRun_of (aqs := [.agg ⟨[.bool a.V6, .int .u64 a.Hi, .int .u64 a.Lo]⟩]) (ws := []) (n := 0) (m := 0) (t' := 1) (ra_cons rfl rfl ra_nil) rfl (by rfl) (r85_eq hy) rfl rfl rfl rfl wb_nil an_nil rfl) ?_
  conv => whnf
  refine br.h h ?_ ?_ ?_
  · rfl
  · clear h; intro hb h; conv => whnf
    all_goals (cases h)
    all_goals exact Res.of [] rfl nw_0 (by decide) js_0 wr_0
  clear h; intro hb h; conv => whnf
  refine br.h2 h ?_ ?_ ?_
  · rfl
  · clear h; intro hb h; conv => whnf
    obtain ⟨p2, hy, h2⟩ := obind.elim h; clear h; have h := h2; clear h2
    refine sumK.introF [] (sumRun_of (aqs := [.int .u64 a.Lo, .int .i64 4]) (ws := []) (n := 0) (m := 0) (t' := 1) (ra_cons rfl rfl (ra_cons rfl rfl ra_nil)) rfl (by rfl) (r62_eq hy) rfl rfl rfl rfl wb_nil an_nil rfl) ?_
    conv => whnf
    all_goals (cases h)
    all_goals exact Res.of [] rfl nw_0 (by decide) js_0 wr_0
  clear h; intro hb h; conv => whnf
  obtain ⟨p, hy, h2⟩ := obind.elim h; clear h; have h := h2; clear h2
  refine sumK.introF [] (sumRun_of (aqs := [.int .u64 a.Hi, .int .i64 8]) (ws := []) (n := 0) (m := 0) (t' := 3) (ra_cons rfl rfl (ra_cons rfl rfl ra_nil)) rfl (by rfl) (r62_eq hy) rfl rfl rfl rfl wb_nil an_nil rfl) ?_
  conv => whnf
  obtain ⟨p1, hy, h2⟩ := obind.elim h; clear h; have h := h2; clear h2
  refine sumK.introF [] (sumRun_of (aqs := [.int .u64 a.Lo, .int .i64 8]) (ws := []) (n := 0) (m := 0) (t' := 6) (ra_cons rfl rfl (ra_cons rfl rfl ra_nil)) rfl (by rfl) (r62_eq hy) rfl rfl rfl rfl wb_nil an_nil rfl) ?_
  conv => whnf
  replace h := oreq.elim h; have hb := h.1; replace h := h.2
  first | (refine req.intro hb ?_; conv => whnf) | skip
  all_goals (cases h)
  all_goals exact Res.of [] rfl nw_0 (by decide) js_0 wr_0
theorem ok78 (addr_Right : api_Addr → Option Bool) (octet_Put : Int → Int → Option (List UInt8)) (hS : SumsOK Try.prog (aget (sums78 addr_Right octet_Put))) : SumOK Try.prog 78 (s78 (addr_PutF addr_Right octet_Put)) := by
  refine SumOK.of_leads tab_ok (fun ar os r ha hr => ?_) ⟨Try.f78, rfl, by decide, rfl⟩
  replace hr : r78 (addr_PutF addr_Right octet_Put) ar (conts os) = some r := hr
  unfold r78 at hr
  generalize hc : conts os = C at hr
  have hq := dV.elim hr; clear hr; obtain ⟨v0, l1, y0, rfl, e0, hr⟩ := hq; obtain rfl := uvapi_Addr_eq _ _ e0
  have hq := dEnd.elim hr; clear hr; obtain ⟨rfl, rfl, hr⟩ := hq
  have hq := ofG.elim hr; clear hr; obtain ⟨x, h, rfl⟩ := hq
  obtain rfl := kinds_nil hc
  exact ⟨_, rfl, leads78 addr_Right octet_Put hS _ x h⟩
def addr_Put : api_Addr → Option (List UInt8) := addr_PutF addr_Right octet_Put
theorem lift78 : SumOK Try.prog 78 (s78 addr_Put) := ok78 addr_Right octet_Put (SumsOK.of_tab ⟨lift85, lift62, trivial⟩)
end Go.Vm.Code

namespace Go.Vm.Code
open Go Go.Vm Go.Proofs
set_option maxRecDepth 100000
set_option maxHeartbeats 4000000
set_option linter.unusedVariables false

/-! cloakroom/cloakroomref04.Right -/
def R04_RightF (a : api_Addr) : Option Bool :=
  cond (a.V6)
    (
    some (true))
    (
    cond (a.Hi == 0)
      (
      some (decide (a.Lo < 4294967296)))
      (
      some (false)))
def rx86 (x : Bool) : SRes := ⟨.bool x, [], []⟩
def r86 (g : api_Addr → Option Bool) : Dec := dV uvapi_Addr fun (y0 : api_Addr) => dEnd (ofG (g y0) rx86)
theorem r86_c {g : api_Addr → Option Bool} {y0 : api_Addr} {x : Bool} (hx : g y0 = some x) : r86 g [.agg ⟨[.bool y0.V6, .int .u64 y0.Hi, .int .u64 y0.Lo]⟩] [] = some (rx86 x) := (dV_eq (uvapi_Addr_c _)).trans (ofG_eq hx)
def s86 (g : api_Addr → Option Bool) : Summ := ⟨[.v], r86 g⟩
theorem r86_eq {g : api_Addr → Option Bool} {y0 : api_Addr} {x : Bool} (hx : g y0 = some x) : (s86 g).run [.agg ⟨[.bool y0.V6, .int .u64 y0.Hi, .int .u64 y0.Lo]⟩] [] = some (rx86 x) := r86_c hx
abbrev sums86 : List (Nat × Summ) := []
theorem leads86 (hS : SumsOK Try.prog (aget (sums86))) (a : api_Addr) (res : Bool) (h : R04_RightF a = some res) :
    Leads Try.prog 86 0 ⟨⟨86, 15, [(0, .agg ⟨[.bool a.V6, .int .u64 a.Hi, .int .u64 a.Lo]⟩)], [.code k86_3], [], false, none⟩, [], [], 0⟩ (fun v H _ => Res 0 (rx86 res) v H) := by
  unfold R04_RightF at h
  refine ev_ok tab_ok hS true 3000 ?_
  conv => whnf
  refine br.h h ?_ ?_ ?_
  · rfl
  · clear h; intro hb h; conv => whnf
    all_goals (cases h)
    all_goals exact Res.of [] rfl nw_0 (by decide) js_0 wr_0
  clear h; intro hb h; conv => whnf
  refine br.h h ?_ ?_ ?_
  · rfl
  · clear h; intro hb h; conv => whnf
    all_goals (cases h)
    all_goals exact Res.of [] rfl nw_0 (by decide) js_0 wr_0
  clear h; intro hb h; conv => whnf
  all_goals (cases h)
  all_goals exact Res.of [] rfl nw_0 (by decide) js_0 wr_0
theorem ok86 (hS : SumsOK Try.prog (aget (sums86))) : SumOK Try.prog 86 (s86 (R04_RightF)) := by
  refine SumOK.of_leads tab_ok (fun ar os r ha hr => ?_) ⟨Try.f86, rfl, by decide, rfl⟩
  replace hr : r86 (R04_RightF) ar (conts os) = some r := hr
  unfold r86 at hr
  generalize hc : conts os = C at hr
  have hq := dV.elim hr; clear hr; obtain ⟨v0, l1, y0, rfl, e0, hr⟩ := hq; obtain rfl := uvapi_Addr_eq _ _ e0
  have hq := dEnd.elim hr; clear hr; obtain ⟨rfl, rfl, hr⟩ := hq
  have hq := ofG.elim hr; clear hr; obtain ⟨x, h, rfl⟩ := hq
  obtain rfl := kinds_nil hc
  exact ⟨_, rfl, leads86 hS _ x h⟩
def R04_Right : api_Addr → Option Bool := R04_RightF
theorem lift86 : SumOK Try.prog 86 (s86 R04_Right) := ok86 (SumsOK.of_tab trivial)
end Go.Vm.Code

namespace Go.Vm.Code
open Go Go.Vm Go.Proofs
set_option maxRecDepth 100000
set_option maxHeartbeats 4000000
set_option linter.unusedVariables false

/-! cloakroom/cloakroomref04.Put -/
def R04_PutF (R02_Put : Int → Int → Option (List UInt8)) (R04_Right : api_Addr → Option Bool) (a : api_Addr) : Option (List UInt8) :=
  (R04_Right a).bind fun xr =>
  cond (!xr)
    (
    some ([]))
    (
    cond (a.V6)
      (
      (R02_Put a.Hi 8).bind fun p =>
      (R02_Put a.Lo 8).bind fun p1 =>
      oreq (decide (p.length + p1.length < 2 ^ 63)) <|
      some (p ++ p1))
      (
      (R02_Put a.Lo 4).bind fun p2 =>
      some (p2)))
def rx81 (x : List UInt8) : SRes := ⟨.string ⟨⟨x⟩⟩, [], []⟩
def r81 (g : api_Addr → Option (List UInt8)) : Dec := dV uvapi_Addr fun (y0 : api_Addr) => dEnd (ofG (g y0) rx81)
theorem r81_c {g : api_Addr → Option (List UInt8)} {y0 : api_Addr} {x : List UInt8} (hx : g y0 = some x) : r81 g [.agg ⟨[.bool y0.V6, .int .u64 y0.Hi, .int .u64 y0.Lo]⟩] [] = some (rx81 x) := (dV_eq (uvapi_Addr_c _)).trans (ofG_eq hx)
def s81 (g : api_Addr → Option (List UInt8)) : Summ := ⟨[.v], r81 g⟩
theorem r81_eq {g : api_Addr → Option (List UInt8)} {y0 : api_Addr} {x : List UInt8} (hx : g y0 = some x) : (s81 g).run [.agg ⟨[.bool y0.V6, .int .u64 y0.Hi, .int .u64 y0.Lo]⟩] [] = some (rx81 x) := r81_c hx
abbrev sums81 (R02_Put : Int → Int → Option (List UInt8)) (R04_Right : api_Addr → Option Bool) : List (Nat × Summ) := [(67, s67 R02_Put), (86, s86 R04_Right)]
theorem leads81 (R02_Put : Int → Int → Option (List UInt8)) (R04_Right : api_Addr → Option Bool) (hS : SumsOK Try.prog (aget (sums81 R02_Put R04_Right))) (a : api_Addr) (res : List UInt8) (h : R04_PutF R02_Put R04_Right a = some res) :
    Leads Try.prog 81 0 ⟨⟨81, 18, [(0, .agg ⟨[.bool a.V6, .int .u64 a.Hi, .int .u64 a.Lo]⟩)], [.code k81_15], [], false, none⟩, [], [], 0⟩ (fun v H _ => Res 0 (rx81 res) v H) := by
  unfold R04_PutF at h
  refine ev_ok tab_ok hS true 3000 ?_
  conv => whnf
  obtain ⟨xr, hy, h2⟩ := obind.elim h; clear h; have h := h2; clear h2
  refine sumK.introF [] (sumRun_of (aqs := [.agg ⟨[.bool a.V6, .int .u64 a.Hi, .int .u64 a.Lo]⟩]) (ws := []) (n := 0) (m := 0) (t' := 1) (ra_cons rfl rfl ra_nil) rfl (by rfl) (r86_eq hy) rfl rfl rfl rfl wb_nil an_nil rfl) ?_
  conv => whnf
  refine br.h h ?_ ?_ ?_
  · rfl
  · clear h; intro hb h; conv => whnf
    all_goals (cases h)
    all_goals exact Res.of [] rfl nw_0 (by decide) js_0 wr_0
  clear h; intro hb h; conv => whnf
  refine br.h2 h ?_ ?_ ?_
  · rfl
  · clear h; intro hb h; conv => whnf
    obtain ⟨p2, hy, h2⟩ := obind.elim h; clear h; have h := h2; clear h2
    refine sumK.introF [] (sumRun_of (aqs := [.int .u64 a.Lo, .int .i64 4]) (ws := []) (n := 0) (m := 0) (t' := 1) (ra_cons rfl rfl (ra_cons rfl rfl ra_nil)) rfl (by rfl) (r67_eq hy) rfl rfl rfl rfl wb_nil an_nil rfl) ?_
    conv => whnf
    all_goals (cases h)
    all_goals exact Res.of [] rfl nw_0 (by decide) js_0 wr_0
  clear h; intro hb h; conv => whnf
  obtain ⟨p, hy, h2⟩ := obind.elim h; clear h; have h := h2; clear h2
  refine sumK.introF [] (sumRun_of (aqs := [.int .u64 a.Hi, .int .i64 8]) (ws := []) (n := 0) (m := 0) (t' := 3) (ra_cons rfl rfl (ra_cons rfl rfl ra_nil)) rfl (by rfl) (r67_eq hy) rfl rfl rfl rfl wb_nil an_nil rfl) ?_
  conv => whnf
  obtain ⟨p1, hy, h2⟩ := obind.elim h; clear h; have h := h2; clear h2
  refine sumK.introF [] (sumRun_of (aqs := [.int .u64 a.Lo, .int .i64 8]) (ws := []) (n := 0) (m := 0) (t' := 6) (ra_cons rfl rfl (ra_cons rfl rfl ra_nil)) rfl (by rfl) (r67_eq hy) rfl rfl rfl rfl wb_nil an_nil rfl) ?_
  conv => whnf
  replace h := oreq.elim h; have hb := h.1; replace h := h.2
  first | (refine req.intro hb ?_; conv => whnf) | skip
  all_goals (cases h)
  all_goals exact Res.of [] rfl nw_0 (by decide) js_0 wr_0
theorem ok81 (R02_Put : Int → Int → Option (List UInt8)) (R04_Right : api_Addr → Option Bool) (hS : SumsOK Try.prog (aget (sums81 R02_Put R04_Right))) : SumOK Try.prog 81 (s81 (R04_PutF R02_Put R04_Right)) := by
  refine SumOK.of_leads tab_ok (fun ar os r ha hr => ?_) ⟨Try.f81, rfl, by decide, rfl⟩
  replace hr : r81 (R04_PutF R02_Put R04_Right) ar (conts os) = some r := hr
  unfold r81 at hr
  generalize hc : conts os = C at hr
  have hq := dV.elim hr; clear hr; obtain ⟨v0, l1, y0, rfl, e0, hr⟩ := hq; obtain rfl := uvapi_Addr_eq _ _ e0
  have hq := dEnd.elim hr; clear hr; obtain ⟨rfl, rfl, hr⟩ := hq
  have hq := ofG.elim hr; clear hr; obtain ⟨x, h, rfl⟩ := hq
  obtain rfl := kinds_nil hc
  exact ⟨_, rfl, leads81 R02_Put R04_Right hS _ x h⟩
def R04_Put : api_Addr → Option (List UInt8) := R04_PutF R02_Put R04_Right
theorem lift81 : SumOK Try.prog 81 (s81 R04_Put) := ok81 R02_Put R04_Right (SumsOK.of_tab ⟨lift67, lift86, trivial⟩)
end Go.Vm.Code

namespace Go.Vm.Code
open Go Go.Vm Go.Proofs
set_option maxRecDepth 100000
set_option maxHeartbeats 4000000
set_option linter.unusedVariables false

/-! cloakroom/ipfour.row -/
def ipfour_row_s1 (octet_Put : Int → Int → Option (List UInt8)) (l : List Int) (i : Int) (c : List Int) : Option (Sum (Int × (List Int)) (List UInt8)) :=
  let t := decide ((wI .i64 (i + 1)) < (l.length : Int))
  cond (t)
    (
    oreq (decide ((0 : Int) ≤ i ∧ i < (l.length : Int))) <|
    (l[i.toNat]?).bind fun (e2 : Int) =>
    oreq (decide ((0 : Int) ≤ (wI .i64 (i + 1)) ∧ (wI .i64 (i + 1)) < (l.length : Int))) <|
    (l[(wI .i64 (i + 1)).toNat]?).bind fun (e3 : Int) =>
    (octet_Put (wI .u64 e2) e3).bind fun p1 =>
    oreq (decide ((c.length + p1.length) * 1 ≤ 2 ^ 47)) <|
    let row := c ++ (bI p1)
    some (.inl (wI .i64 (i + 2), row)))
    (
    oreq (decide (c.length < 2 ^ 63)) <|
    some (.inr (iB c)))
def ipfour_rowF (octet_Put : Int → Int → Option (List UInt8)) (l : List Int) : Option (List UInt8) :=
  cond (decide (1 < (l.length : Int)))
    (
    oreq (decide ((0 : Int) ≤ (0 : Int) ∧ (0 : Int) < (l.length : Int))) <|
    (l[0]?).bind fun (e : Int) =>
    oreq (decide ((0 : Int) ≤ (1 : Int) ∧ (1 : Int) < (l.length : Int))) <|
    (l[1]?).bind fun (e1 : Int) =>
    (octet_Put (wI .u64 e) e1).bind fun p =>
    oreq (decide (p.length * 1 ≤ 2 ^ 47)) <|
    iter (fun st => ipfour_row_s1 octet_Put l st.1 st.2) FUEL (2, bI p))
    (
    some ([]))
def rx77 (x : List UInt8) : SRes := ⟨.string ⟨⟨x⟩⟩, [], [none]⟩
def r77 (g : (List Int) → Option (List UInt8)) : Dec := dSl 0 1 (unL (asI .i64)) fun (y0 : List Int) => dEnd (ofG (g y0) rx77)
theorem r77_c {g : (List Int) → Option (List UInt8)} {y0 : List Int} {x : List UInt8} (hx : g y0 = some x) : r77 g [.slice (some ⟨0, 0, none⟩) y0.length 1] [some (vI .i64 y0)] = some (rx77 x) := (dSl_eq (unI_vI _ _)).trans (ofG_eq hx)
def s77 (g : (List Int) → Option (List UInt8)) : Summ := ⟨[.sl 1], r77 g⟩
theorem r77_eq {g : (List Int) → Option (List UInt8)} {y0 : List Int} {x : List UInt8} (hx : g y0 = some x) : (s77 g).run [.slice (some ⟨0, 0, none⟩) y0.length 1] [some (vI .i64 y0)] = some (rx77 x) := r77_c hx
abbrev sums77 (octet_Put : Int → Int → Option (List UInt8)) : List (Nat × Summ) := [(62, s62 octet_Put)]
def head77_1 (l : List Int) (i : Int) (c : List Int) : VM :=
  ⟨⟨77, 25, [(0, .slice (some ⟨0, 0, none⟩) l.length 1), (3, .pointer (some ⟨1, 0, none⟩)), (4, .int .i64 i)], [.code k77_10, .inLoop k77_10, .inBlock 0, .code k77_15], [], false, none⟩, [], [(0, .row false (vI .i64 l)), (1, .ty 114 [.pointer (some ⟨1, 0, none⟩), .func (.method "") ⟨[.slice (some ⟨12, 0, none⟩) c.length 1]⟩ ⟨[]⟩]), (12, .ty 5 (vI .u8 c))], 13⟩
theorem loop77_1 (octet_Put : Int → Int → Option (List UInt8)) (hS : SumsOK Try.prog (aget (sums77 octet_Put))) (l : List Int) (res : List UInt8) : ∀ fuel (st : Int × (List Int)) (o : List UInt8), iter (fun st => ipfour_row_s1 octet_Put l st.1 st.2) fuel st = some o → (o = res) →
    Leads Try.prog 77 1 (head77_1 l st.1 st.2) (fun v H _ => Res 1 (rx77 res) v H) := by
  intro fuel st o h hc
  refine iter_leads (head := fun st => head77_1 l st.1 st.2) (C := fun o => (o = res)) ?_ fuel st o h hc
  clear h hc o st fuel
  intro st o h hc
  obtain ⟨i, c⟩ := st
  replace h : ipfour_row_s1 octet_Put l i c = some o := h
  show Leads Try.prog 77 1 (head77_1 l i c) (fun v H _ => Res 1 (rx77 res) v H)
  unfold ipfour_row_s1 at h
  refine ev_ok tab_ok hS true 3000 ?_
  conv => whnf
  let t : Bool := decide ((wI .i64 (i + 1)) < (l.length : Int))
  refine br.h2 h ?_ ?_ ?_
  · rfl
  · clear h; intro hb h; conv => whnf
    replace h := oreq.elim h; have hb := h.1; replace h := h.2
    refine req.intro (us_req rfl (by first | rfl | (simp; done)) (by first | rfl | omega | (simp; done) | (simp; omega) | (simp at *; omega)) (of_decide_eq_true hb)) ?_
    conv => whnf
    refine pk_us ?_
    conv => whnf
    all_goals (cases h; cases hc)
    all_goals exact Res.of [] rfl nw_0 (by decide) js_0 (wr_n wr_0)
  clear h; intro hb h; conv => whnf
  replace h := oreq.elim h; have hb := h.1; replace h := h.2
  first | (refine req.intro hb ?_; conv => whnf) | skip
  obtain ⟨e2, hy, h2⟩ := obind.elim h; clear h; have h := h2; clear h2
  refine rd.I hy (by first | rfl | (rw [Nat.zero_add, Nat.mul_one]; done) | omega) ?_
  conv => whnf
  replace h := oreq.elim h; have hb := h.1; replace h := h.2
  first | (refine req.intro hb ?_; conv => whnf) | skip
  obtain ⟨e3, hy, h2⟩ := obind.elim h; clear h; have h := h2; clear h2
  refine rd.I hy (by first | rfl | (rw [Nat.zero_add, Nat.mul_one]; done) | omega) ?_
  conv => whnf
  obtain ⟨p1, hy, h2⟩ := obind.elim h; clear h; have h := h2; clear h2
  refine sumK.introF [] (sumRun_of (aqs := [.int .u64 (wI .u64 e2), .int .i64 e3]) (ws := []) (n := 0) (m := 0) (t' := 23) (ra_cons rfl rfl (ra_cons rfl rfl ra_nil)) rfl (by rfl) (r62_eq hy) rfl rfl rfl rfl wb_nil an_nil rfl) ?_
  conv => whnf
  replace h := oreq.elim h; have hb := h.1; replace h := h.2
  refine req.intro (apb_req (of_decide_eq_true hb) (by first | rfl | omega | (simp; done) | (simp; omega) | (simp at *; omega)) rfl rfl (by first | rfl | omega | (simp; done) | (simp; omega) | (simp at *; omega)) (by first | rfl | exact vI_one _ _ | exact vS_one _ | exact vB_one _ | exact vT_one (by first | exact cudp_Head_one | exact capi_Addr_one | exact coctet_Reader_one) _ | (rw [ofBytes_vI]; exact vI_one _ _) | simp [vI_one, vS_one, vB_one, vI_drop, vI_take, vS_drop, vS_take]) rfl) ?_
  conv => whnf
  let row : List Int := c ++ (bI p1)
  refine pk_apW (xs := c) (ys := bI p1) (ofBytes_vI _) (by first | (simp; done) | (simp; omega)) (by first | (simp; done) | (simp; omega)) ?_
  conv => whnf
  cases h; simp only [Sum.elim_inl, head77_1] at hc
  refine Leads.re hc [(0, 0), (1, 1), (12, 23)] rfl ?_ ?_ <;> (repeat' first | exact trivial | refine ⟨⟨_, rfl, rfl⟩, ?_⟩ | refine ⟨⟨_, _, rfl, rfl, .rowF (vI_flat _ _) id⟩, ?_⟩ | refine ⟨⟨_, _, rfl, rfl, .rowF (vS_flat _) id⟩, ?_⟩ | refine ⟨⟨_, _, rfl, rfl, .rowF (vB_flat _) id⟩, ?_⟩ | refine ⟨⟨_, _, rfl, rfl, .rowF (vT_flat (by first | exact cudp_Head_flat | exact capi_Addr_flat | exact coctet_Reader_flat) _) id⟩, ?_⟩ | refine ⟨⟨_, _, rfl, rfl, .tyF (vI_flat _ _)⟩, ?_⟩ | refine ⟨⟨_, _, rfl, rfl, .ty rfl⟩, ?_⟩ | refine ⟨⟨_, _, rfl, rfl, .cells rfl⟩, ?_⟩ | refine ⟨⟨_, _, rfl, rfl, .row rfl id⟩, ?_⟩ | refine ⟨⟨_, _, rfl, rfl, .cr rfl⟩, ?_⟩ | refine ⟨⟨_, _, rfl, rfl, .rc rfl⟩, ?_⟩ | refine ⟨⟨_, _, rfl, rfl, .marks⟩, ?_⟩ | refine ⟨⟨_, _, rfl, rfl, .siter _ _⟩, ?_⟩ | refine ⟨⟨_, _, rfl, rfl, .loop rfl rfl rfl rfl (by repeat' first | exact trivial | refine ⟨rfl, ?_⟩) rfl rfl rfl rfl⟩, ?_⟩)
theorem leads77 (octet_Put : Int → Int → Option (List UInt8)) (hS : SumsOK Try.prog (aget (sums77 octet_Put))) (l : List Int) (res : List UInt8) (h : ipfour_rowF octet_Put l = some res) :
    Leads Try.prog 77 1 ⟨⟨77, 25, [(0, .slice (some ⟨0, 0, none⟩) l.length 1)], [.code k77_18], [], false, none⟩, [], [(0, .row false (vI .i64 l))], 1⟩ (fun v H _ => Res 1 (rx77 res) v H) := by
  unfold ipfour_rowF at h
  refine ev_ok tab_ok hS true 3000 ?_
  conv => whnf
  refine ev_ok tab_ok hS true 3000 ?_
  conv => whnf
  refine br.h2 h ?_ ?_ ?_
  · rfl
  · clear h; intro hb h; conv => whnf
    all_goals (cases h)
    all_goals exact Res.of [] rfl nw_0 (by decide) js_0 (wr_n wr_0)
  clear h; intro hb h; conv => whnf
  replace h := oreq.elim h; have hb := h.1; replace h := h.2
  first | (refine req.intro hb ?_; conv => whnf) | skip
  obtain ⟨e, hy, h2⟩ := obind.elim h; clear h; have h := h2; clear h2
  refine rd.I hy (by first | rfl | (rw [Nat.zero_add, Nat.mul_one]; done) | omega) ?_
  conv => whnf
  replace h := oreq.elim h; have hb := h.1; replace h := h.2
  first | (refine req.intro hb ?_; conv => whnf) | skip
  obtain ⟨e1, hy, h2⟩ := obind.elim h; clear h; have h := h2; clear h2
  refine rd.I hy (by first | rfl | (rw [Nat.zero_add, Nat.mul_one]; done) | omega) ?_
  conv => whnf
  obtain ⟨p, hy, h2⟩ := obind.elim h; clear h; have h := h2; clear h2
  refine sumK.introF [] (sumRun_of (aqs := [.int .u64 (wI .u64 e), .int .i64 e1]) (ws := []) (n := 0) (m := 0) (t' := 12) (ra_cons rfl rfl (ra_cons rfl rfl ra_nil)) rfl (by rfl) (r62_eq hy) rfl rfl rfl rfl wb_nil an_nil rfl) ?_
  conv => whnf
  replace h := oreq.elim h; have hb := h.1; replace h := h.2
  refine req.intro (ap0b_req (of_decide_eq_true hb) (by first | rfl | omega | (simp; done) | (simp; omega) | (simp at *; omega)) rfl rfl) ?_
  conv => whnf
  refine pk_ap0I (ys := bI p) (ofBytes_vI _) (by first | rfl | (simp; done) | (simp; omega)) ?_
  conv => whnf
  have hl := loop77_1 octet_Put hS _ res _ _ _ h rfl; simp only [head77_1] at hl
  refine Leads.re hl [(0, 0), (1, 1), (12, 12)] rfl ?_ ?_ <;> (repeat' first | exact trivial | refine ⟨⟨_, rfl, rfl⟩, ?_⟩ | refine ⟨⟨_, _, rfl, rfl, .rowF (vI_flat _ _) id⟩, ?_⟩ | refine ⟨⟨_, _, rfl, rfl, .rowF (vS_flat _) id⟩, ?_⟩ | refine ⟨⟨_, _, rfl, rfl, .rowF (vB_flat _) id⟩, ?_⟩ | refine ⟨⟨_, _, rfl, rfl, .rowF (vT_flat (by first | exact cudp_Head_flat | exact capi_Addr_flat | exact coctet_Reader_flat) _) id⟩, ?_⟩ | refine ⟨⟨_, _, rfl, rfl, .tyF (vI_flat _ _)⟩, ?_⟩ | refine ⟨⟨_, _, rfl, rfl, .ty rfl⟩, ?_⟩ | refine ⟨⟨_, _, rfl, rfl, .cells rfl⟩, ?_⟩ | refine ⟨⟨_, _, rfl, rfl, .row rfl id⟩, ?_⟩ | refine ⟨⟨_, _, rfl, rfl, .cr rfl⟩, ?_⟩ | refine ⟨⟨_, _, rfl, rfl, .rc rfl⟩, ?_⟩ | refine ⟨⟨_, _, rfl, rfl, .marks⟩, ?_⟩ | refine ⟨⟨_, _, rfl, rfl, .siter _ _⟩, ?_⟩ | refine ⟨⟨_, _, rfl, rfl, .loop rfl rfl rfl rfl (by repeat' first | exact trivial | refine ⟨rfl, ?_⟩) rfl rfl rfl rfl⟩, ?_⟩)
theorem ok77 (octet_Put : Int → Int → Option (List UInt8)) (hS : SumsOK Try.prog (aget (sums77 octet_Put))) : SumOK Try.prog 77 (s77 (ipfour_rowF octet_Put)) := by
  refine SumOK.of_leads tab_ok (fun ar os r ha hr => ?_) ⟨Try.f77, rfl, by decide, rfl⟩
  replace hr : r77 (ipfour_rowF octet_Put) ar (conts os) = some r := hr
  unfold r77 at hr
  generalize hc : conts os = C at hr
  have hq := dSl.elim hr; clear hr; obtain ⟨c0, l1, C, y0, rfl, rfl, e0, hr⟩ := hq; obtain rfl := unI_eq e0
  have hq := dEnd.elim hr; clear hr; obtain ⟨rfl, rfl, hr⟩ := hq
  have hq := ofG.elim hr; clear hr; obtain ⟨x, h, rfl⟩ := hq
  obtain ⟨os, rfl, ha, hc⟩ := kinds_some ha hc
  obtain rfl := kinds_nil hc
  exact ⟨_, rfl, leads77 octet_Put hS _ x h⟩
def ipfour_row : (List Int) → Option (List UInt8) := ipfour_rowF octet_Put
theorem lift77 : SumOK Try.prog 77 (s77 ipfour_row) := ok77 octet_Put (SumsOK.of_tab ⟨lift62, trivial⟩)
end Go.Vm.Code

namespace Go.Vm.Code
open Go Go.Vm Go.Proofs
set_option maxRecDepth 100000
set_option maxHeartbeats 4000000
set_option linter.unusedVariables false

/-! cloakroom/ipfour.Pseudo -/
def ipfour_PseudoF (addr_Put : api_Addr → Option (List UInt8)) (addr_Right : api_Addr → Option Bool) (ipfour_row : (List Int) → Option (List UInt8)) (src : api_Addr) (dst : api_Addr) (proto : Int) (n : Int) : Option (List UInt8) :=
  (addr_Right src).bind fun xr =>
  cond (!xr)
    (
    some ([]))
    (
    (addr_Right dst).bind fun xr1 =>
    cond (!xr1)
      (
      some ([]))
      (
      cond (!(src.V6 == dst.V6))
        (
        some ([]))
        (
        (addr_Put src).bind fun p =>
        (addr_Put dst).bind fun p1 =>
        oreq (decide (p.length + p1.length < 2 ^ 63)) <|
        cond (src.V6)
          (
          (ipfour_row [n, 4, 0, 3, proto, 1]).bind fun xr2 =>
          oreq (decide ((p ++ p1).length + xr2.length < 2 ^ 63)) <|
          some ((p ++ p1) ++ xr2))
          (
          (ipfour_row [0, 1, proto, 1, n, 2]).bind fun xr3 =>
          oreq (decide ((p ++ p1).length + xr3.length < 2 ^ 63)) <|
          some ((p ++ p1) ++ xr3)))))
def rx27 (x : List UInt8) : SRes := ⟨.string ⟨⟨x⟩⟩, [], []⟩
def r27 (g : api_Addr → api_Addr → Int → Int → Option (List UInt8)) : Dec := dV uvapi_Addr fun (y0 : api_Addr) => dV uvapi_Addr fun (y1 : api_Addr) => dV (asI .i64) fun (y2 : Int) => dV (asI .i64) fun (y3 : Int) => dEnd (ofG (g y0 y1 y2 y3) rx27)
theorem r27_c {g : api_Addr → api_Addr → Int → Int → Option (List UInt8)} {y0 : api_Addr} {y1 : api_Addr} {y2 : Int} {y3 : Int} {x : List UInt8} (hx : g y0 y1 y2 y3 = some x) : r27 g [.agg ⟨[.bool y0.V6, .int .u64 y0.Hi, .int .u64 y0.Lo]⟩, .agg ⟨[.bool y1.V6, .int .u64 y1.Hi, .int .u64 y1.Lo]⟩, .int .i64 y2, .int .i64 y3] [] = some (rx27 x) := (dV_eq (uvapi_Addr_c _)).trans ((dV_eq (uvapi_Addr_c _)).trans ((dV_eq (asI_c _)).trans ((dV_eq (asI_c _)).trans (ofG_eq hx))))
def s27 (g : api_Addr → api_Addr → Int → Int → Option (List UInt8)) : Summ := ⟨[.v, .v, .v, .v], r27 g⟩
theorem r27_eq {g : api_Addr → api_Addr → Int → Int → Option (List UInt8)} {y0 : api_Addr} {y1 : api_Addr} {y2 : Int} {y3 : Int} {x : List UInt8} (hx : g y0 y1 y2 y3 = some x) : (s27 g).run [.agg ⟨[.bool y0.V6, .int .u64 y0.Hi, .int .u64 y0.Lo]⟩, .agg ⟨[.bool y1.V6, .int .u64 y1.Hi, .int .u64 y1.Lo]⟩, .int .i64 y2, .int .i64 y3] [] = some (rx27 x) := r27_c hx
abbrev sums27 (addr_Put : api_Addr → Option (List UInt8)) (addr_Right : api_Addr → Option Bool) (ipfour_row : (List Int) → Option (List UInt8)) : List (Nat × Summ) := [(78, s78 addr_Put), (85, s85 addr_Right), (77, s77 ipfour_row)]
theorem leads27 (addr_Put : api_Addr → Option (List UInt8)) (addr_Right : api_Addr → Option Bool) (ipfour_row : (List Int) → Option (List UInt8)) (hS : SumsOK Try.prog (aget (sums27 addr_Put addr_Right ipfour_row))) (src : api_Addr) (dst : api_Addr) (proto : Int) (n : Int) (res : List UInt8) (h : ipfour_PseudoF addr_Put addr_Right ipfour_row src dst proto n = some res) :
    Leads Try.prog 27 0 ⟨⟨27, 44, [(0, .agg ⟨[.bool src.V6, .int .u64 src.Hi, .int .u64 src.Lo]⟩), (1, .agg ⟨[.bool dst.V6, .int .u64 dst.Hi, .int .u64 dst.Lo]⟩), (2, .int .i64 proto), (3, .int .i64 n)], [.code k27_17], [], false, none⟩, [], [], 0⟩ (fun v H _ => Res 0 (rx27 res) v H) := by
  unfold ipfour_PseudoF at h
  refine ev_ok tab_ok hS true 3000 ?_
  conv => whnf
  obtain ⟨xr, hy, h2⟩ := obind.elim h; clear h; have h := h2; clear h2
  refine sumK.introF [] (sumRun_of (aqs := [.agg ⟨[.bool src.V6, .int .u64 src.Hi, .int .u64 src.Lo]⟩]) (ws := []) (n := 0) (m := 0) (t' := 2) (ra_cons rfl rfl ra_nil) rfl (by rfl) (r85_eq hy) rfl rfl rfl rfl wb_nil an_nil rfl) ?_
  conv => whnf
  refine br.h h ?_ ?_ ?_
  · rfl
  · clear h; intro hb h; conv => whnf
    all_goals (cases h)
    all_goals exact Res.of [] rfl nw_0 (by decide) js_0 wr_0
  clear h; intro hb h; conv => whnf
  obtain ⟨xr1, hy, h2⟩ := obind.elim h; clear h; have h := h2; clear h2
  refine sumK.introF [] (sumRun_of (aqs := [.agg ⟨[.bool dst.V6, .int .u64 dst.Hi, .int .u64 dst.Lo]⟩]) (ws := []) (n := 0) (m := 0) (t' := 2) (ra_cons rfl rfl ra_nil) rfl (by rfl) (r85_eq hy) rfl rfl rfl rfl wb_nil an_nil rfl) ?_
  conv => whnf
  refine br.h h ?_ ?_ ?_
  · rfl
  · clear h; intro hb h; conv => whnf
    all_goals (cases h)
    all_goals exact Res.of [] rfl nw_0 (by decide) js_0 wr_0
  clear h; intro hb h; conv => whnf
  refine br.h h ?_ ?_ ?_
  · rfl
  · clear h; intro hb h; conv => whnf
    all_goals (cases h)
    all_goals exact Res.of [] rfl nw_0 (by decide) js_0 wr_0
  clear h; intro hb h; conv => whnf
  obtain ⟨p, hy, h2⟩ := obind.elim h; clear h; have h := h2; clear h2
  refine sumK.introF [] (sumRun_of (aqs := [.agg ⟨[.bool src.V6, .int .u64 src.Hi, .int .u64 src.Lo]⟩]) (ws := []) (n := 0) (m := 0) (t' := 3) (ra_cons rfl rfl ra_nil) rfl (by rfl) (r78_eq hy) rfl rfl rfl rfl wb_nil an_nil rfl) ?_
  conv => whnf
  obtain ⟨p1, hy, h2⟩ := obind.elim h; clear h; have h := h2; clear h2
  refine sumK.introF [] (sumRun_of (aqs := [.agg ⟨[.bool dst.V6, .int .u64 dst.Hi, .int .u64 dst.Lo]⟩]) (ws := []) (n := 0) (m := 0) (t' := 5) (ra_cons rfl rfl ra_nil) rfl (by rfl) (r78_eq hy) rfl rfl rfl rfl wb_nil an_nil rfl) ?_
  conv => whnf
  replace h := oreq.elim h; have hb := h.1; replace h := h.2
  first | (refine req.intro hb ?_; conv => whnf) | skip
  refine br.h h ?_ ?_ ?_
  · rfl
  · clear h; intro hb h; conv => whnf
    obtain ⟨xr2, hy, h2⟩ := obind.elim h; clear h; have h := h2; clear h2
    refine sumK.introF [] (sumRun_of (aqs := [.slice (some ⟨0, 0, none⟩) ([n, 4, 0, 3, proto, 1] : List Int).length 1]) (ws := [.win 5 0 (6 * 1) false]) (n := 0) (m := 0) (t' := 6) (ra_cons (by first | rfl | exact ra_allI rfl rfl (by first | rfl | omega) (by first | rfl | (simp; done)) | exact ra_slI rfl rfl (by first | rfl | omega) (by first | rfl | omega) (by first | omega | (simp at *; omega))) rfl ra_nil) rfl (by rfl) (r77_eq hy) rfl rfl rfl rfl (wb_skip rfl wb_nil) an_nil rfl) ?_
    conv => whnf
    replace h := oreq.elim h; have hb := h.1; replace h := h.2
    first | (refine req.intro hb ?_; conv => whnf) | skip
    all_goals (cases h)
    all_goals exact Res.of [] rfl nw_0 (by decide) js_0 wr_0
  clear h; intro hb h; conv => whnf
  obtain ⟨xr3, hy, h2⟩ := obind.elim h; clear h; have h := h2; clear h2
  refine sumK.introF [] (sumRun_of (aqs := [.slice (some ⟨0, 0, none⟩) ([0, 1, proto, 1, n, 2] : List Int).length 1]) (ws := [.win 5 0 (6 * 1) false]) (n := 0) (m := 0) (t' := 6) (ra_cons (by first | rfl | exact ra_allI rfl rfl (by first | rfl | omega) (by first | rfl | (simp; done)) | exact ra_slI rfl rfl (by first | rfl | omega) (by first | rfl | omega) (by first | omega | (simp at *; omega))) rfl ra_nil) rfl (by rfl) (r77_eq hy) rfl rfl rfl rfl (wb_skip rfl wb_nil) an_nil rfl) ?_
  conv => whnf
  replace h := oreq.elim h; have hb := h.1; replace h := h.2
  first | (refine req.intro hb ?_; conv => whnf) | skip
  all_goals (cases h)
  all_goals exact Res.of [] rfl nw_0 (by decide) js_0 wr_0
theorem ok27 (addr_Put : api_Addr → Option (List UInt8)) (addr_Right : api_Addr → Option Bool) (ipfour_row : (List Int) → Option (List UInt8)) (hS : SumsOK Try.prog (aget (sums27 addr_Put addr_Right ipfour_row))) : SumOK Try.prog 27 (s27 (ipfour_PseudoF addr_Put addr_Right ipfour_row)) := by
  refine SumOK.of_leads tab_ok (fun ar os r ha hr => ?_) ⟨Try.f27, rfl, by decide, rfl⟩
  replace hr : r27 (ipfour_PseudoF addr_Put addr_Right ipfour_row) ar (conts os) = some r := hr
  unfold r27 at hr
  generalize hc : conts os = C at hr
  have hq := dV.elim hr; clear hr; obtain ⟨v0, l1, y0, rfl, e0, hr⟩ := hq; obtain rfl := uvapi_Addr_eq _ _ e0
  have hq := dV.elim hr; clear hr; obtain ⟨v1, l2, y1, rfl, e1, hr⟩ := hq; obtain rfl := uvapi_Addr_eq _ _ e1
  have hq := dV.elim hr; clear hr; obtain ⟨v2, l3, y2, rfl, e2, hr⟩ := hq; obtain rfl := asI_eq _ _ _ e2
  have hq := dV.elim hr; clear hr; obtain ⟨v3, l4, y3, rfl, e3, hr⟩ := hq; obtain rfl := asI_eq _ _ _ e3
  have hq := dEnd.elim hr; clear hr; obtain ⟨rfl, rfl, hr⟩ := hq
  have hq := ofG.elim hr; clear hr; obtain ⟨x, h, rfl⟩ := hq
  obtain rfl := kinds_nil hc
  exact ⟨_, rfl, leads27 addr_Put addr_Right ipfour_row hS _ _ _ _ x h⟩
def ipfour_Pseudo : api_Addr → api_Addr → Int → Int → Option (List UInt8) := ipfour_PseudoF addr_Put addr_Right ipfour_row
theorem lift27 : SumOK Try.prog 27 (s27 ipfour_Pseudo) := ok27 addr_Put addr_Right ipfour_row (SumsOK.of_tab ⟨lift78, lift85, lift77, trivial⟩)
end Go.Vm.Code

namespace Go.Vm.Code
open Go Go.Vm Go.Proofs
set_option maxRecDepth 100000
set_option maxHeartbeats 4000000
set_option linter.unusedVariables false

/-! cloakroom/cloakroomref05.num -/
def R05_numF (R02_Put : Int → Int → Option (List UInt8)) (n : Int) (k : Int) : Option (List UInt8) :=
  (R02_Put (wI .u64 n) k).bind fun p =>
  some (p)
def rx80 (x : List UInt8) : SRes := ⟨.string ⟨⟨x⟩⟩, [], []⟩
def r80 (g : Int → Int → Option (List UInt8)) : Dec := dV (asI .i64) fun (y0 : Int) => dV (asI .i64) fun (y1 : Int) => dEnd (ofG (g y0 y1) rx80)
theorem r80_c {g : Int → Int → Option (List UInt8)} {y0 : Int} {y1 : Int} {x : List UInt8} (hx : g y0 y1 = some x) : r80 g [.int .i64 y0, .int .i64 y1] [] = some (rx80 x) := (dV_eq (asI_c _)).trans ((dV_eq (asI_c _)).trans (ofG_eq hx))
def s80 (g : Int → Int → Option (List UInt8)) : Summ := ⟨[.v, .v], r80 g⟩
theorem r80_eq {g : Int → Int → Option (List UInt8)} {y0 : Int} {y1 : Int} {x : List UInt8} (hx : g y0 y1 = some x) : (s80 g).run [.int .i64 y0, .int .i64 y1] [] = some (rx80 x) := r80_c hx
abbrev sums80 (R02_Put : Int → Int → Option (List UInt8)) : List (Nat × Summ) := [(67, s67 R02_Put)]
theorem leads80 (R02_Put : Int → Int → Option (List UInt8)) (hS : SumsOK Try.prog (aget (sums80 R02_Put))) (n : Int) (k : Int) (res : List UInt8) (h : R05_numF R02_Put n k = some res) :
    Leads Try.prog 80 0 ⟨⟨80, 9, [(0, .int .i64 n), (1, .int .i64 k)], [.code k80_3], [], false, none⟩, [], [], 0⟩ (fun v H _ => Res 0 (rx80 res) v H) := by
  unfold R05_numF at h
  refine ev_ok tab_ok hS true 3000 ?_
  conv => whnf
  obtain ⟨p, hy, h2⟩ := obind.elim h; clear h; have h := h2; clear h2
  refine sumK.introF [] (sumRun_of (aqs := [.int .u64 (wI .u64 n), .int .i64 k]) (ws := []) (n := 0) (m := 0) (t' := 0) (ra_cons rfl rfl (ra_cons rfl rfl ra_nil)) rfl (by rfl) (r67_eq hy) rfl rfl rfl rfl wb_nil an_nil rfl) ?_
  conv => whnf
  all_goals (cases h)
  all_goals exact Res.of [] rfl nw_0 (by decide) js_0 wr_0
theorem ok80 (R02_Put : Int → Int → Option (List UInt8)) (hS : SumsOK Try.prog (aget (sums80 R02_Put))) : SumOK Try.prog 80 (s80 (R05_numF R02_Put)) := by
  refine SumOK.of_leads tab_ok (fun ar os r ha hr => ?_) ⟨Try.f80, rfl, by decide, rfl⟩
  replace hr : r80 (R05_numF R02_Put) ar (conts os) = some r := hr
  unfold r80 at hr
  generalize hc : conts os = C at hr
  have hq := dV.elim hr; clear hr; obtain ⟨v0, l1, y0, rfl, e0, hr⟩ := hq; obtain rfl := asI_eq _ _ _ e0
  have hq := dV.elim hr; clear hr; obtain ⟨v1, l2, y1, rfl, e1, hr⟩ := hq; obtain rfl := asI_eq _ _ _ e1
  have hq := dEnd.elim hr; clear hr; obtain ⟨rfl, rfl, hr⟩ := hq
  have hq := ofG.elim hr; clear hr; obtain ⟨x, h, rfl⟩ := hq
  obtain rfl := kinds_nil hc
  exact ⟨_, rfl, leads80 R02_Put hS _ _ x h⟩
def R05_num : Int → Int → Option (List UInt8) := R05_numF R02_Put
theorem lift80 : SumOK Try.prog 80 (s80 R05_num) := ok80 R02_Put (SumsOK.of_tab ⟨lift67, trivial⟩)
end Go.Vm.Code

namespace Go.Vm.Code
open Go Go.Vm Go.Proofs
set_option maxRecDepth 100000
set_option maxHeartbeats 4000000
set_option linter.unusedVariables false

/-! cloakroom/cloakroomref05.Pseudo -/
def R05_PseudoF (R04_Put : api_Addr → Option (List UInt8)) (R04_Right : api_Addr → Option Bool) (R05_num : Int → Int → Option (List UInt8)) (src : api_Addr) (dst : api_Addr) (proto : Int) (n : Int) : Option (List UInt8) :=
  (R04_Right src).bind fun xr =>
  cond (!xr)
    (
    some ([]))
    (
    (R04_Right dst).bind fun xr1 =>
    cond (!xr1)
      (
      some ([]))
      (
      cond (!(src.V6 == dst.V6))
        (
        some ([]))
        (
        cond (src.V6)
          (
          (R04_Put src).bind fun p =>
          (R04_Put dst).bind fun p1 =>
          oreq (decide (p.length + p1.length < 2 ^ 63)) <|
          (R05_num n 4).bind fun n1 =>
          oreq (decide ((p ++ p1).length + n1.length < 2 ^ 63)) <|
          (R05_num 0 3).bind fun n2 =>
          oreq (decide (((p ++ p1) ++ n1).length + n2.length < 2 ^ 63)) <|
          (R05_num proto 1).bind fun n3 =>
          oreq (decide ((((p ++ p1) ++ n1) ++ n2).length + n3.length < 2 ^ 63)) <|
          some ((((p ++ p1) ++ n1) ++ n2) ++ n3))
          (
          (R04_Put src).bind fun p2 =>
          (R04_Put dst).bind fun p3 =>
          oreq (decide (p2.length + p3.length < 2 ^ 63)) <|
          (R05_num 0 1).bind fun n4 =>
          oreq (decide ((p2 ++ p3).length + n4.length < 2 ^ 63)) <|
          (R05_num proto 1).bind fun n5 =>
          oreq (decide (((p2 ++ p3) ++ n4).length + n5.length < 2 ^ 63)) <|
          (R05_num n 2).bind fun n6 =>
          oreq (decide ((((p2 ++ p3) ++ n4) ++ n5).length + n6.length < 2 ^ 63)) <|
          some ((((p2 ++ p3) ++ n4) ++ n5) ++ n6)))))
def rx28 (x : List UInt8) : SRes := ⟨.string ⟨⟨x⟩⟩, [], []⟩
def r28 (g : api_Addr → api_Addr → Int → Int → Option (List UInt8)) : Dec := dV uvapi_Addr fun (y0 : api_Addr) => dV uvapi_Addr fun (y1 : api_Addr) => dV (asI .i64) fun (y2 : Int) => dV (asI .i64) fun (y3 : Int) => dEnd (ofG (g y0 y1 y2 y3) rx28)
theorem r28_c {g : api_Addr → api_Addr → Int → Int → Option (List UInt8)} {y0 : api_Addr} {y1 : api_Addr} {y2 : Int} {y3 : Int} {x : List UInt8} (hx : g y0 y1 y2 y3 = some x) : r28 g [.agg ⟨[.bool y0.V6, .int .u64 y0.Hi, .int .u64 y0.Lo]⟩, .agg ⟨[.bool y1.V6, .int .u64 y1.Hi, .int .u64 y1.Lo]⟩, .int .i64 y2, .int .i64 y3] [] = some (rx28 x) := (dV_eq (uvapi_Addr_c _)).trans ((dV_eq (uvapi_Addr_c _)).trans ((dV_eq (asI_c _)).trans ((dV_eq (asI_c _)).trans (ofG_eq hx))))
def s28 (g : api_Addr → api_Addr → Int → Int → Option (List UInt8)) : Summ := ⟨[.v, .v, .v, .v], r28 g⟩
theorem r28_eq {g : api_Addr → api_Addr → Int → Int → Option (List UInt8)} {y0 : api_Addr} {y1 : api_Addr} {y2 : Int} {y3 : Int} {x : List UInt8} (hx : g y0 y1 y2 y3 = some x) : (s28 g).run [.agg ⟨[.bool y0.V6, .int .u64 y0.Hi, .int .u64 y0.Lo]⟩, .agg ⟨[.bool y1.V6, .int .u64 y1.Hi, .int .u64 y1.Lo]⟩, .int .i64 y2, .int .i64 y3] [] = some (rx28 x) := r28_c hx
abbrev sums28 (R04_Put : api_Addr → Option (List UInt8)) (R04_Right : api_Addr → Option Bool) (R05_num : Int → Int → Option (List UInt8)) : List (Nat × Summ) := [(81, s81 R04_Put), (86, s86 R04_Right), (80, s80 R05_num)]
theorem leads28 (R04_Put : api_Addr → Option (List UInt8)) (R04_Right : api_Addr → Option Bool) (R05_num : Int → Int → Option (List UInt8)) (hS : SumsOK Try.prog (aget (sums28 R04_Put R04_Right R05_num))) (src : api_Addr) (dst : api_Addr) (proto : Int) (n : Int) (res : List UInt8) (h : R05_PseudoF R04_Put R04_Right R05_num src dst proto n = some res) :
    Leads Try.prog 28 0 ⟨⟨28, 52, [(0, .agg ⟨[.bool src.V6, .int .u64 src.Hi, .int .u64 src.Lo]⟩), (1, .agg ⟨[.bool dst.V6, .int .u64 dst.Hi, .int .u64 dst.Lo]⟩), (2, .int .i64 proto), (3, .int .i64 n)], [.code k28_15], [], false, none⟩, [], [], 0⟩ (fun v H _ => Res 0 (rx28 res) v H) := by
  unfold R05_PseudoF at h
  refine ev_ok tab_ok hS true 3000 ?_
  conv => whnf
  obtain ⟨xr, hy, h2⟩ := obind.elim h; clear h; have h := h2; clear h2
  refine sumK.introF [] (sumRun_of (aqs := [.agg ⟨[.bool src.V6, .int .u64 src.Hi, .int .u64 src.Lo]⟩]) (ws := []) (n := 0) (m := 0) (t' := 2) (ra_cons rfl rfl ra_nil) rfl (by rfl) (r86_eq hy) rfl rfl rfl rfl wb_nil an_nil rfl) ?_
  conv => whnf
  refine br.h h ?_ ?_ ?_
  · rfl
  · clear h; intro hb h; conv => whnf
    all_goals (cases h)
    all_goals exact Res.of [] rfl nw_0 (by decide) js_0 wr_0
  clear h; intro hb h; conv => whnf
  obtain ⟨xr1, hy, h2⟩ := obind.elim h; clear h; have h := h2; clear h2
  refine sumK.introF [] (sumRun_of (aqs := [.agg ⟨[.bool dst.V6, .int .u64 dst.Hi, .int .u64 dst.Lo]⟩]) (ws := []) (n := 0) (m := 0) (t' := 2) (ra_cons rfl rfl ra_nil) rfl (by rfl) (r86_eq hy) rfl rfl rfl rfl wb_nil an_nil rfl) ?_
  conv => whnf
  refine br.h h ?_ ?_ ?_
  · rfl
  · clear h; intro hb h; conv => whnf
    all_goals (cases h)
    all_goals exact Res.of [] rfl nw_0 (by decide) js_0 wr_0
  clear h; intro hb h; conv => whnf
  refine br.h h ?_ ?_ ?_
  · rfl
  · clear h; intro hb h; conv => whnf
    all_goals (cases h)
    all_goals exact Res.of [] rfl nw_0 (by decide) js_0 wr_0
  clear h; intro hb h; conv => whnf
  refine br.h h ?_ ?_ ?_
  · rfl
  · clear h; intro hb h; conv => whnf
    obtain ⟨p, hy, h2⟩ := obind.elim h; clear h; have h := h2; clear h2
    refine sumK.introF [] (sumRun_of (aqs := [.agg ⟨[.bool src.V6, .int .u64 src.Hi, .int .u64 src.Lo]⟩]) (ws := []) (n := 0) (m := 0) (t' := 3) (ra_cons rfl rfl ra_nil) rfl (by rfl) (r81_eq hy) rfl rfl rfl rfl wb_nil an_nil rfl) ?_
    conv => whnf
    obtain ⟨p1, hy, h2⟩ := obind.elim h; clear h; have h := h2; clear h2
    refine sumK.introF [] (sumRun_of (aqs := [.agg ⟨[.bool dst.V6, .int .u64 dst.Hi, .int .u64 dst.Lo]⟩]) (ws := []) (n := 0) (m := 0) (t' := 5) (ra_cons rfl rfl ra_nil) rfl (by rfl) (r81_eq hy) rfl rfl rfl rfl wb_nil an_nil rfl) ?_
    conv => whnf
    replace h := oreq.elim h; have hb := h.1; replace h := h.2
    first | (refine req.intro hb ?_; conv => whnf) | skip
    obtain ⟨n1, hy, h2⟩ := obind.elim h; clear h; have h := h2; clear h2
    refine sumK.introF [] (sumRun_of (aqs := [.int .i64 n, .int .i64 4]) (ws := []) (n := 0) (m := 0) (t' := 8) (ra_cons rfl rfl (ra_cons rfl rfl ra_nil)) rfl (by rfl) (r80_eq hy) rfl rfl rfl rfl wb_nil an_nil rfl) ?_
    conv => whnf
    replace h := oreq.elim h; have hb := h.1; replace h := h.2
    first | (refine req.intro hb ?_; conv => whnf) | skip
    obtain ⟨n2, hy, h2⟩ := obind.elim h; clear h; have h := h2; clear h2
    refine sumK.introF [] (sumRun_of (aqs := [.int .i64 0, .int .i64 3]) (ws := []) (n := 0) (m := 0) (t' := 10) (ra_cons rfl rfl (ra_cons rfl rfl ra_nil)) rfl (by rfl) (r80_eq hy) rfl rfl rfl rfl wb_nil an_nil rfl) ?_
    conv => whnf
    replace h := oreq.elim h; have hb := h.1; replace h := h.2
    first | (refine req.intro hb ?_; conv => whnf) | skip
    obtain ⟨n3, hy, h2⟩ := obind.elim h; clear h; have h := h2; clear h2
    refine sumK.introF [] (sumRun_of (aqs := [.int .i64 proto, .int .i64 1]) (ws := []) (n := 0) (m := 0) (t' := 13) (ra_cons rfl rfl (ra_cons rfl rfl ra_nil)) rfl (by rfl) (r80_eq hy) rfl rfl rfl rfl wb_nil an_nil rfl) ?_
    conv => whnf
    replace h := oreq.elim h; have hb := h.1; replace h := h.2
    first | (refine req.intro hb ?_; conv => whnf) | skip
    all_goals (cases h)
    all_goals exact Res.of [] rfl nw_0 (by decide) js_0 wr_0
  clear h; intro hb h; conv => whnf
  obtain ⟨p2, hy, h2⟩ := obind.elim h; clear h; have h := h2; clear h2
  refine sumK.introF [] (sumRun_of (aqs := [.agg ⟨[.bool src.V6, .int .u64 src.Hi, .int .u64 src.Lo]⟩]) (ws := []) (n := 0) (m := 0) (t' := 3) (ra_cons rfl rfl ra_nil) rfl (by rfl) (r81_eq hy) rfl rfl rfl rfl wb_nil an_nil rfl) ?_
  conv => whnf
  obtain ⟨p3, hy, h2⟩ := obind.elim h; clear h; have h := h2; clear h2
  refine sumK.introF [] (sumRun_of (aqs := [.agg ⟨[.bool dst.V6, .int .u64 dst.Hi, .int .u64 dst.Lo]⟩]) (ws := []) (n := 0) (m := 0) (t' := 5) (ra_cons rfl rfl ra_nil) rfl (by rfl) (r81_eq hy) rfl rfl rfl rfl wb_nil an_nil rfl) ?_
  conv => whnf
  replace h := oreq.elim h; have hb := h.1; replace h := h.2
  first | (refine req.intro hb ?_; conv => whnf) | skip
  obtain ⟨n4, hy, h2⟩ := obind.elim h; clear h; have h := h2; clear h2
  refine sumK.introF [] (sumRun_of (aqs := [.int .i64 0, .int .i64 1]) (ws := []) (n := 0) (m := 0) (t' := 7) (ra_cons rfl rfl (ra_cons rfl rfl ra_nil)) rfl (by rfl) (r80_eq hy) rfl rfl rfl rfl wb_nil an_nil rfl) ?_
  conv => whnf
  replace h := oreq.elim h; have hb := h.1; replace h := h.2
  first | (refine req.intro hb ?_; conv => whnf) | skip
  obtain ⟨n5, hy, h2⟩ := obind.elim h; clear h; have h := h2; clear h2
  refine sumK.introF [] (sumRun_of (aqs := [.int .i64 proto, .int .i64 1]) (ws := []) (n := 0) (m := 0) (t' := 10) (ra_cons rfl rfl (ra_cons rfl rfl ra_nil)) rfl (by rfl) (r80_eq hy) rfl rfl rfl rfl wb_nil an_nil rfl) ?_
  conv => whnf
  replace h := oreq.elim h; have hb := h.1; replace h := h.2
  first | (refine req.intro hb ?_; conv => whnf) | skip
  obtain ⟨n6, hy, h2⟩ := obind.elim h; clear h; have h := h2; clear h2
  refine sumK.introF [] (sumRun_of (aqs := [.int .i64 n, .int .i64 2]) (ws := []) (n := 0) (m := 0) (t' := 13) (ra_cons rfl rfl (ra_cons rfl rfl ra_nil)) rfl (by rfl) (r80_eq hy) rfl rfl rfl rfl wb_nil an_nil rfl) ?_
  conv => whnf
  replace h := oreq.elim h; have hb := h.1; replace h := h.2
  first | (refine req.intro hb ?_; conv => whnf) | skip
  all_goals (cases h)
  all_goals exact Res.of [] rfl nw_0 (by decide) js_0 wr_0
theorem ok28 (R04_Put : api_Addr → Option (List UInt8)) (R04_Right : api_Addr → Option Bool) (R05_num : Int → Int → Option (List UInt8)) (hS : SumsOK Try.prog (aget (sums28 R04_Put R04_Right R05_num))) : SumOK Try.prog 28 (s28 (R05_PseudoF R04_Put R04_Right R05_num)) := by
  refine SumOK.of_leads tab_ok (fun ar os r ha hr => ?_) ⟨Try.f28, rfl, by decide, rfl⟩
  replace hr : r28 (R05_PseudoF R04_Put R04_Right R05_num) ar (conts os) = some r := hr
  unfold r28 at hr
  generalize hc : conts os = C at hr
  have hq := dV.elim hr; clear hr; obtain ⟨v0, l1, y0, rfl, e0, hr⟩ := hq; obtain rfl := uvapi_Addr_eq _ _ e0
  have hq := dV.elim hr; clear hr; obtain ⟨v1, l2, y1, rfl, e1, hr⟩ := hq; obtain rfl := uvapi_Addr_eq _ _ e1
  have hq := dV.elim hr; clear hr; obtain ⟨v2, l3, y2, rfl, e2, hr⟩ := hq; obtain rfl := asI_eq _ _ _ e2
  have hq := dV.elim hr; clear hr; obtain ⟨v3, l4, y3, rfl, e3, hr⟩ := hq; obtain rfl := asI_eq _ _ _ e3
  have hq := dEnd.elim hr; clear hr; obtain ⟨rfl, rfl, hr⟩ := hq
  have hq := ofG.elim hr; clear hr; obtain ⟨x, h, rfl⟩ := hq
  obtain rfl := kinds_nil hc
  exact ⟨_, rfl, leads28 R04_Put R04_Right R05_num hS _ _ _ _ x h⟩
def R05_Pseudo : api_Addr → api_Addr → Int → Int → Option (List UInt8) := R05_PseudoF R04_Put R04_Right R05_num
theorem lift28 : SumOK Try.prog 28 (s28 R05_Pseudo) := ok28 R04_Put R04_Right R05_num (SumsOK.of_tab ⟨lift81, lift86, lift80, trivial⟩)
end Go.Vm.Code

/- Chapters 4 and 5: an address in bytes, the pseudo header. -/
namespace Go.Vm.Code
open Go Go.Vm

def A4 (a : api_Addr) : Prop := 0 ≤ a.Hi ∧ a.Hi < 2 ^ 64 ∧ 0 ≤ a.Lo ∧ a.Lo < 2 ^ 64
def aok (a : api_Addr) : Bool := a.V6 || (a.Hi == 0 && decide (a.Lo < 4294967296))
theorem aRight_eq (a : api_Addr) : addr_Right a = some (aok a) := by
  unfold addr_Right addr_RightF aok
  cases a.V6
  · cases (a.Hi == 0) <;> rfl
  · rfl
theorem a4Right_eq (a : api_Addr) : R04_Right a = some (aok a) := by
  unfold R04_Right R04_RightF aok
  cases a.V6
  · cases (a.Hi == 0) <;> rfl
  · rfl
def abytes (a : api_Addr) : List UInt8 := cond a.V6 (be a.Hi.toNat 8 ++ be a.Lo.toNat 8) (be a.Lo.toNat 4)
theorem abytes_len (a : api_Addr) : (abytes a).length = cond a.V6 16 4 := by unfold abytes; cases a.V6 <;> simp
theorem putS_be {n : Int} {k : Nat} (h : 1 ≤ k ∧ k ≤ 8) : putS n (k : Int) = be n.toNat k := by unfold putS; rw [if_pos (by omega)]; rfl
theorem aPut_eq {a : api_Addr} (h : A4 a) (hr : aok a = true) : addr_Put a = some (abytes a) := by
  obtain ⟨h1, h2, h3, h4⟩ := h
  unfold addr_Put addr_PutF abytes
  rw [aRight_eq, Option.bind_some, hr]
  simp only [Bool.not_true, cond_false]
  cases a.V6
  · simp only [cond_false]
    rw [octet_Put_eq h3, Option.bind_some, show (4 : Int) = ((4 : Nat) : Int) from rfl, putS_be (by omega)]
  · simp only [cond_true]
    rw [octet_Put_eq h1, Option.bind_some, octet_Put_eq h3, Option.bind_some, show (8 : Int) = ((8 : Nat) : Int) from rfl, putS_be (by omega), putS_be (by omega), oreq_p (by simp)]
theorem a4Put_eq {a : api_Addr} (h : A4 a) (hr : aok a = true) : R04_Put a = some (abytes a) := by
  obtain ⟨h1, h2, h3, h4⟩ := h
  unfold R04_Put R04_PutF abytes
  rw [a4Right_eq, Option.bind_some, hr]
  simp only [Bool.not_true, cond_false]
  cases a.V6
  · simp only [cond_false]
    rw [R02_Put_eq h3 h4, Option.bind_some, show (4 : Int) = ((4 : Nat) : Int) from rfl, putS_be (by omega)]
  · simp only [cond_true]
    rw [R02_Put_eq h1 h2, Option.bind_some, R02_Put_eq h3 h4, Option.bind_some, show (8 : Int) = ((8 : Nat) : Int) from rfl, putS_be (by omega), putS_be (by omega), oreq_p (by simp)]
theorem num5_eq {n k : Int} (h0 : 0 ≤ n) (h1 : n < 2 ^ 63) : R05_num n k = some (putS n k) := by
  unfold R05_num R05_numF
  rw [wU64 h0 (by omega), R02_Put_eq h0 (by omega)]; rfl
theorem putS_len (n k : Int) : (putS n k).length ≤ 8 := by unfold putS; split <;> simp <;> omega
/-- a row of three numbers -/
theorem iB_bI (s : List UInt8) : iB (bI s) = s := by simp [iB, bI, List.map_map, Function.comp_def]
theorem iB_app (a b : List Int) : iB (a ++ b) = iB a ++ iB b := by simp [iB]
theorem bI_app (a b : List UInt8) : bI (a ++ b) = bI a ++ bI b := by simp [bI]
theorem iter_inl {σ ρ : Type} {f : σ → Option (Sum σ ρ)} {n : Nat} {s s' : σ} (h : f s = some (.inl s')) : iter f (n + 1) s = iter f n s' := by rw [iter, h]
theorem iter_inr {σ ρ : Type} {f : σ → Option (Sum σ ρ)} {n : Nat} {s : σ} {r : ρ} (h : f s = some (.inr r)) : iter f (n + 1) s = some r := by rw [iter, h]
theorem FUEL_succ : ∃ n, FUEL = n + 8 := ⟨18446744073709551608, rfl⟩
theorem row_eq {a b c d e f : Int} (ha : 0 ≤ a) (hc : 0 ≤ c) (he : 0 ≤ e) (ha1 : a < 2 ^ 63) (hc1 : c < 2 ^ 63) (he1 : e < 2 ^ 63) : ipfour_row [a, b, c, d, e, f] = some (putS a b ++ putS c d ++ putS e f) := by
  have l1 := putS_len a b
  have l2 := putS_len c d
  have l3 := putS_len e f
  unfold ipfour_row ipfour_rowF
  rw [cond_p (by simp), oreq_p (by simp)]
  show ((some a).bind _) = _
  rw [Option.bind_some, oreq_p (by simp)]
  show ((some b).bind _) = _
  rw [Option.bind_some, wU64 ha (by omega), octet_Put_eq ha, Option.bind_some, oreq_p (by omega)]
  obtain ⟨n, hn⟩ := FUEL_succ
  rw [hn]
  have s1 : ipfour_row_s1 octet_Put [a, b, c, d, e, f] 2 (bI (putS a b)) = some (.inl (4, bI (putS a b ++ putS c d))) := by
    unfold ipfour_row_s1
    simp only []
    rw [cond_p (by rw [show wI .i64 (2 + 1) = 3 from rfl]; simp), oreq_p (by simp)]
    show ((some c).bind _) = _
    rw [Option.bind_some, oreq_p (by rw [show wI .i64 (2 + 1) = 3 from rfl]; simp)]
    show ((some d).bind _) = _
    rw [Option.bind_some, wU64 hc (by omega), octet_Put_eq hc, Option.bind_some, oreq_p (by simp; omega), bI_app]; rfl
  have s2 : ipfour_row_s1 octet_Put [a, b, c, d, e, f] 4 (bI (putS a b ++ putS c d)) = some (.inl (6, bI (putS a b ++ putS c d ++ putS e f))) := by
    unfold ipfour_row_s1
    simp only []
    rw [cond_p (by rw [show wI .i64 (4 + 1) = 5 from rfl]; simp), oreq_p (by simp)]
    show ((some e).bind _) = _
    rw [Option.bind_some, oreq_p (by rw [show wI .i64 (4 + 1) = 5 from rfl]; simp)]
    show ((some f).bind _) = _
    rw [Option.bind_some, wU64 he (by omega), octet_Put_eq he, Option.bind_some, oreq_p (by simp; omega), bI_app (putS a b ++ putS c d)]; rfl
  have s3 : ipfour_row_s1 octet_Put [a, b, c, d, e, f] 6 (bI (putS a b ++ putS c d ++ putS e f)) = some (.inr (putS a b ++ putS c d ++ putS e f)) := by
    unfold ipfour_row_s1
    simp only []
    rw [cond_n (by rw [show wI .i64 (6 + 1) = 7 from rfl]; simp), oreq_p (by simp; omega), iB_bI]
  rw [iter_inl (f := fun (st : Int × List Int) => ipfour_row_s1 octet_Put [a, b, c, d, e, f] st.1 st.2) (n := n + 7) s1, iter_inl (n := n + 6) s2, iter_inr (n := n + 5) s3]
/-- the pseudo header -/
def pseu (src dst : api_Addr) (p n : Int) : List UInt8 :=
  if aok src = true ∧ aok dst = true ∧ src.V6 = dst.V6 then abytes src ++ abytes dst ++ cond src.V6 (putS n 4 ++ putS 0 3 ++ putS p 1) (putS 0 1 ++ putS p 1 ++ putS n 2) else []
theorem pseu_len (src dst : api_Addr) (p n : Int) : (pseu src dst p n).length ≤ 56 := by
  have l1 := putS_len n 4
  have l2 := putS_len 0 3
  have l3 := putS_len p 1
  have l4 := putS_len 0 1
  have l5 := putS_len n 2
  unfold pseu
  split
  · rw [List.length_append, List.length_append, abytes_len, abytes_len]
    cases src.V6 <;> cases dst.V6 <;> simp <;> omega
  · simp
theorem pseudo_eq {src dst : api_Addr} {p n : Int} (h1 : A4 src) (h2 : A4 dst) (hp : 0 ≤ p ∧ p < 2 ^ 63) (hn : 0 ≤ n ∧ n < 2 ^ 63) : ipfour_Pseudo src dst p n = some (pseu src dst p n) := by
  unfold ipfour_Pseudo ipfour_PseudoF pseu
  rw [aRight_eq, aRight_eq, Option.bind_some]
  cases e1 : aok src
  · simp
  simp only [Bool.not_true, cond_false, Option.bind_some]
  cases e2 : aok dst
  · simp
  simp only [Bool.not_true, cond_false]
  by_cases e3 : src.V6 = dst.V6
  · rw [if_pos (by simpa using e3), show (src.V6 == dst.V6) = true by simpa using e3]
    simp only [Bool.not_true, cond_false]
    have l1 := abytes_len src
    have l2 := abytes_len dst
    rw [aPut_eq h1 e1, Option.bind_some, aPut_eq h2 e2, Option.bind_some, oreq_p (by rw [l1, l2]; cases src.V6 <;> cases dst.V6 <;> decide)]
    rw [row_eq hn.1 (by omega) hp.1 hn.2 (by omega) hp.2, row_eq (by omega) hp.1 hn.1 (by omega) hp.2 hn.2]
    have m1 := putS_len n 4
    have m2 := putS_len 0 3
    have m3 := putS_len p 1
    have m4 := putS_len 0 1
    have m5 := putS_len n 2
    have b1 : (abytes src).length ≤ 16 := by rw [l1]; cases src.V6 <;> decide
    have b2 : (abytes dst).length ≤ 16 := by rw [l2]; cases dst.V6 <;> decide
    cases src.V6
    · simp only [cond_false, Option.bind_some]
      rw [oreq_p (by simp only [List.length_append]; omega)]
    · simp only [cond_true, Option.bind_some]
      rw [oreq_p (by simp only [List.length_append]; omega)]
  · rw [if_neg (fun h => e3 h.2.2), show (src.V6 == dst.V6) = false by simpa using e3]; rfl
theorem pseudo5_eq {src dst : api_Addr} {p n : Int} (h1 : A4 src) (h2 : A4 dst) (hp : 0 ≤ p ∧ p < 2 ^ 63) (hn : 0 ≤ n ∧ n < 2 ^ 63) : R05_Pseudo src dst p n = some (pseu src dst p n) := by
  unfold R05_Pseudo R05_PseudoF pseu
  rw [a4Right_eq, a4Right_eq, Option.bind_some]
  cases e1 : aok src
  · simp
  simp only [Bool.not_true, cond_false, Option.bind_some]
  cases e2 : aok dst
  · simp
  simp only [Bool.not_true, cond_false]
  by_cases e3 : src.V6 = dst.V6
  · rw [if_pos (by simpa using e3), show (src.V6 == dst.V6) = true by simpa using e3]
    simp only [Bool.not_true, cond_false]
    have l1 := abytes_len src
    have l2 := abytes_len dst
    have m1 := putS_len n 4
    have m2 := putS_len 0 3
    have m3 := putS_len p 1
    have m4 := putS_len 0 1
    have m5 := putS_len n 2
    have b1 : (abytes src).length ≤ 16 := by rw [l1]; cases src.V6 <;> decide
    have b2 : (abytes dst).length ≤ 16 := by rw [l2]; cases dst.V6 <;> decide
    rw [a4Put_eq h1 e1, a4Put_eq h2 e2, num5_eq hn.1 hn.2, num5_eq (n := 0) (k := 3) (by omega) (by omega), num5_eq hp.1 hp.2, num5_eq (n := 0) (k := 1) (by omega) (by omega), num5_eq hn.1 hn.2]
    cases src.V6
    · simp only [cond_false, Option.bind_some]
      rw [oreq_p (by omega), oreq_p (by simp only [List.length_append]; omega), oreq_p (by simp only [List.length_append]; omega), oreq_p (by simp only [List.length_append]; omega)]
      simp only [List.append_assoc]
    · simp only [cond_true, Option.bind_some]
      rw [oreq_p (by omega), oreq_p (by simp only [List.length_append]; omega), oreq_p (by simp only [List.length_append]; omega), oreq_p (by simp only [List.length_append]; omega)]
      simp only [List.append_assoc]
  · rw [if_neg (fun h => e3 h.2.2), show (src.V6 == dst.V6) = false by simpa using e3]; rfl
end Go.Vm.Code

namespace Go.Vm.Code
open Go Go.Vm Go.Proofs
set_option maxRecDepth 100000
set_option maxHeartbeats 4000000
set_option linter.unusedVariables false

/-! (*cloakroom/octet.Reader).Bad -/
def octet_Reader_BadF (ra0 : octet_Reader) : Option (Bool × octet_Reader) :=
  cond (!ra0.made)
    (
    some ((true, ra0)))
    (
    some ((ra0.bad, ra0)))
def rx72 (x : Bool × octet_Reader) : SRes := ⟨.bool x.1, [], [some [.string ⟨⟨x.2.s⟩⟩, .bool x.2.made, .bool x.2.bad]]⟩
def r72 (g : octet_Reader → Option (Bool × octet_Reader)) : Dec := dPt 0 unoctet_Reader fun (y0 : octet_Reader) => dEnd (ofG (g y0) rx72)
theorem r72_c {g : octet_Reader → Option (Bool × octet_Reader)} {y0 : octet_Reader} {x : Bool × octet_Reader} (hx : g y0 = some x) : r72 g [.pointer (some ⟨0, 0, none⟩)] [some [.string ⟨⟨y0.s⟩⟩, .bool y0.made, .bool y0.bad]] = some (rx72 x) := (dPt_eq (unoctet_Reader_c _)).trans (ofG_eq hx)
def s72 (g : octet_Reader → Option (Bool × octet_Reader)) : Summ := ⟨[.pt 3], r72 g⟩
theorem r72_eq {g : octet_Reader → Option (Bool × octet_Reader)} {y0 : octet_Reader} {x : Bool × octet_Reader} (hx : g y0 = some x) : (s72 g).run [.pointer (some ⟨0, 0, none⟩)] [some [.string ⟨⟨y0.s⟩⟩, .bool y0.made, .bool y0.bad]] = some (rx72 x) := r72_c hx
abbrev sums72 : List (Nat × Summ) := []
theorem leads72 (hS : SumsOK Try.prog (aget (sums72))) (ra0 : octet_Reader) (res : Bool × octet_Reader) (h : octet_Reader_BadF ra0 = some res) :
    Leads Try.prog 72 1 ⟨⟨72, 18, [(0, .pointer (some ⟨0, 0, none⟩))], [.code k72_3], [], false, none⟩, [], [(0, .cells [.string ⟨⟨ra0.s⟩⟩, .bool ra0.made, .bool ra0.bad])], 1⟩ (fun v H _ => Res 1 (rx72 res) v H) := by
  unfold octet_Reader_BadF at h
  refine ev_ok tab_ok hS true 3000 ?_
  conv => whnf
  refine br.h h ?_ ?_ ?_
  · rfl
  · clear h; intro hb h; conv => whnf
    all_goals (cases h)
    all_goals exact Res.of [] rfl nw_0 (by decide) js_0 (wr_s (rfl) (hs_cells rfl) wr_0)
  clear h; intro hb h; conv => whnf
  all_goals (cases h)
  all_goals exact Res.of [] rfl nw_0 (by decide) js_0 (wr_s (rfl) (hs_cells rfl) wr_0)
theorem ok72 (hS : SumsOK Try.prog (aget (sums72))) : SumOK Try.prog 72 (s72 (octet_Reader_BadF)) := by
  refine SumOK.of_leads tab_ok (fun ar os r ha hr => ?_) ⟨Try.f72, rfl, by decide, rfl⟩
  replace hr : r72 (octet_Reader_BadF) ar (conts os) = some r := hr
  unfold r72 at hr
  generalize hc : conts os = C at hr
  have hq := dPt.elim hr; clear hr; obtain ⟨c0, l1, C, y0, rfl, rfl, e0, hr⟩ := hq; obtain rfl := unoctet_Reader_eq _ _ e0
  have hq := dEnd.elim hr; clear hr; obtain ⟨rfl, rfl, hr⟩ := hq
  have hq := ofG.elim hr; clear hr; obtain ⟨x, h, rfl⟩ := hq
  obtain ⟨os, rfl, ha, hc⟩ := kinds_some ha hc
  obtain rfl := kinds_nil hc
  exact ⟨_, rfl, leads72 hS _ x h⟩
def octet_Reader_Bad : octet_Reader → Option (Bool × octet_Reader) := octet_Reader_BadF
theorem lift72 : SumOK Try.prog 72 (s72 octet_Reader_Bad) := ok72 (SumsOK.of_tab trivial)
end Go.Vm.Code

namespace Go.Vm.Code
open Go Go.Vm Go.Proofs
set_option maxRecDepth 100000
set_option maxHeartbeats 4000000
set_option linter.unusedVariables false

/-! (*cloakroom/octet.Reader).Text -/
def octet_Reader_TextF (octet_Reader_Bad : octet_Reader → Option (Bool × octet_Reader)) (ra0 : octet_Reader) (n : Int) : Option ((List UInt8) × octet_Reader) :=
  (octet_Reader_Bad ra0).bind fun b =>
  cond (b.1)
    (
    some (([], b.2)))
    (
    cond (decide (n < 0))
      (
      some (([], octet_Reader.mk b.2.s b.2.made true)))
      (
      cond (decide (n > (b.2.s.length : Int)))
        (
        some (([], octet_Reader.mk b.2.s b.2.made true)))
        (
        oreq (decide ((0 : Int) ≤ n ∧ n ≤ (b.2.s.length : Int))) <|
        oreq (decide ((0 : Int) ≤ n ∧ n ≤ (b.2.s.length : Int))) <|
        let t := (b.2.s.drop n.toNat).take (b.2.s.length - n.toNat)
        some ((b.2.s.take n.toNat, octet_Reader.mk t b.2.made b.2.bad)))))
def rx83 (x : (List UInt8) × octet_Reader) : SRes := ⟨.string ⟨⟨x.1⟩⟩, [], [some [.string ⟨⟨x.2.s⟩⟩, .bool x.2.made, .bool x.2.bad]]⟩
def r83 (g : octet_Reader → Int → Option ((List UInt8) × octet_Reader)) : Dec := dPt 0 unoctet_Reader fun (y0 : octet_Reader) => dV (asI .i64) fun (y1 : Int) => dEnd (ofG (g y0 y1) rx83)
theorem r83_c {g : octet_Reader → Int → Option ((List UInt8) × octet_Reader)} {y0 : octet_Reader} {y1 : Int} {x : (List UInt8) × octet_Reader} (hx : g y0 y1 = some x) : r83 g [.pointer (some ⟨0, 0, none⟩), .int .i64 y1] [some [.string ⟨⟨y0.s⟩⟩, .bool y0.made, .bool y0.bad]] = some (rx83 x) := (dPt_eq (unoctet_Reader_c _)).trans ((dV_eq (asI_c _)).trans (ofG_eq hx))
def s83 (g : octet_Reader → Int → Option ((List UInt8) × octet_Reader)) : Summ := ⟨[.pt 3, .v], r83 g⟩
theorem r83_eq {g : octet_Reader → Int → Option ((List UInt8) × octet_Reader)} {y0 : octet_Reader} {y1 : Int} {x : (List UInt8) × octet_Reader} (hx : g y0 y1 = some x) : (s83 g).run [.pointer (some ⟨0, 0, none⟩), .int .i64 y1] [some [.string ⟨⟨y0.s⟩⟩, .bool y0.made, .bool y0.bad]] = some (rx83 x) := r83_c hx
abbrev sums83 (octet_Reader_Bad : octet_Reader → Option (Bool × octet_Reader)) : List (Nat × Summ) := [(72, s72 octet_Reader_Bad)]
theorem leads83 (octet_Reader_Bad : octet_Reader → Option (Bool × octet_Reader)) (hS : SumsOK Try.prog (aget (sums83 octet_Reader_Bad))) (ra0 : octet_Reader) (n : Int) (res : (List UInt8) × octet_Reader) (h : octet_Reader_TextF octet_Reader_Bad ra0 n = some res) :
    Leads Try.prog 83 1 ⟨⟨83, 38, [(0, .pointer (some ⟨0, 0, none⟩)), (1, .int .i64 n)], [.code k83_21], [], false, none⟩, [], [(0, .cells [.string ⟨⟨ra0.s⟩⟩, .bool ra0.made, .bool ra0.bad])], 1⟩ (fun v H _ => Res 1 (rx83 res) v H) := by
  unfold octet_Reader_TextF at h
  refine ev_ok tab_ok hS true 3000 ?_
  conv => whnf
  obtain ⟨b, hy, h2⟩ := obind.elim h; clear h; have h := h2; clear h2
  refine sumK.introF [0] (sumRun_of (aqs := [.pointer (some ⟨0, 0, none⟩)]) (ws := [.win 0 0 3 true]) (n := 0) (m := 0) (t' := 1) (ra_cons rfl rfl ra_nil) rfl (by rfl) (r72_eq hy) rfl rfl rfl rfl (wb_win rfl rfl rfl ⟨rfl, Nat.le_of_ble_eq_true rfl⟩ rfl rfl wb_nil) an_nil rfl) ?_
  conv => whnf
  refine br.h h ?_ ?_ ?_
  · rfl
  · clear h; intro hb h; conv => whnf
    all_goals (cases h)
    all_goals exact Res.of [] rfl nw_0 (by decide) js_0 (wr_s (rfl) (hs_cells rfl) wr_0)
  clear h; intro hb h; conv => whnf
  refine br.h h ?_ ?_ ?_
  · rfl
  · clear h; intro hb h; conv => whnf
    all_goals (cases h)
    all_goals exact Res.of [] rfl nw_0 (by decide) js_0 (wr_s (rfl) (hs_cells rfl) wr_0)
  clear h; intro hb h; conv => whnf
  refine br.h h ?_ ?_ ?_
  · rfl
  · clear h; intro hb h; conv => whnf
    all_goals (cases h)
    all_goals exact Res.of [] rfl nw_0 (by decide) js_0 (wr_s (rfl) (hs_cells rfl) wr_0)
  clear h; intro hb h; conv => whnf
  replace h := oreq.elim h; have hb := h.1; replace h := h.2
  first | (refine req.intro hb ?_; conv => whnf) | skip
  replace h := oreq.elim h; have hb := h.1; replace h := h.2
  first | (refine req.intro hb ?_; conv => whnf) | skip
  let t : List UInt8 := (b.2.s.drop n.toNat).take (b.2.s.length - n.toNat)
  all_goals (cases h)
  all_goals exact Res.of [] rfl nw_0 (by decide) js_0 (wr_s (rfl) (hs_cells rfl) wr_0)
theorem ok83 (octet_Reader_Bad : octet_Reader → Option (Bool × octet_Reader)) (hS : SumsOK Try.prog (aget (sums83 octet_Reader_Bad))) : SumOK Try.prog 83 (s83 (octet_Reader_TextF octet_Reader_Bad)) := by
  refine SumOK.of_leads tab_ok (fun ar os r ha hr => ?_) ⟨Try.f83, rfl, by decide, rfl⟩
  replace hr : r83 (octet_Reader_TextF octet_Reader_Bad) ar (conts os) = some r := hr
  unfold r83 at hr
  generalize hc : conts os = C at hr
  have hq := dPt.elim hr; clear hr; obtain ⟨c0, l1, C, y0, rfl, rfl, e0, hr⟩ := hq; obtain rfl := unoctet_Reader_eq _ _ e0
  have hq := dV.elim hr; clear hr; obtain ⟨v1, l2, y1, rfl, e1, hr⟩ := hq; obtain rfl := asI_eq _ _ _ e1
  have hq := dEnd.elim hr; clear hr; obtain ⟨rfl, rfl, hr⟩ := hq
  have hq := ofG.elim hr; clear hr; obtain ⟨x, h, rfl⟩ := hq
  obtain ⟨os, rfl, ha, hc⟩ := kinds_some ha hc
  obtain rfl := kinds_nil hc
  exact ⟨_, rfl, leads83 octet_Reader_Bad hS _ _ x h⟩
def octet_Reader_Text : octet_Reader → Int → Option ((List UInt8) × octet_Reader) := octet_Reader_TextF octet_Reader_Bad
theorem lift83 : SumOK Try.prog 83 (s83 octet_Reader_Text) := ok83 octet_Reader_Bad (SumsOK.of_tab ⟨lift72, trivial⟩)
end Go.Vm.Code

namespace Go.Vm.Code
open Go Go.Vm Go.Proofs
set_option maxRecDepth 100000
set_option maxHeartbeats 4000000
set_option linter.unusedVariables false

/-! (*cloakroom/octet.Reader).Num -/
def octet_Reader_NumF (octet_Get : (List UInt8) → Int → Int → Option (Int × Bool)) (octet_Reader_Text : octet_Reader → Int → Option ((List UInt8) × octet_Reader)) (ra0 : octet_Reader) (k : Int) : Option (Int × octet_Reader) :=
  cond (decide (k < 1))
    (
    (octet_Reader_Text ra0 (-1)).bind fun t =>
    (octet_Get t.1 0 (-1)).bind fun xg =>
    some ((wI .i64 xg.1, t.2)))
    (
    cond (decide (k > 7))
      (
      (octet_Reader_Text ra0 (-1)).bind fun t1 =>
      (octet_Get t1.1 0 (-1)).bind fun xg1 =>
      some ((wI .i64 xg1.1, t1.2)))
      (
      (octet_Reader_Text ra0 k).bind fun t2 =>
      (octet_Get t2.1 0 k).bind fun xg2 =>
      some ((wI .i64 xg2.1, t2.2))))
def rx71 (x : Int × octet_Reader) : SRes := ⟨.int .i64 x.1, [], [some [.string ⟨⟨x.2.s⟩⟩, .bool x.2.made, .bool x.2.bad]]⟩
def r71 (g : octet_Reader → Int → Option (Int × octet_Reader)) : Dec := dPt 0 unoctet_Reader fun (y0 : octet_Reader) => dV (asI .i64) fun (y1 : Int) => dEnd (ofG (g y0 y1) rx71)
theorem r71_c {g : octet_Reader → Int → Option (Int × octet_Reader)} {y0 : octet_Reader} {y1 : Int} {x : Int × octet_Reader} (hx : g y0 y1 = some x) : r71 g [.pointer (some ⟨0, 0, none⟩), .int .i64 y1] [some [.string ⟨⟨y0.s⟩⟩, .bool y0.made, .bool y0.bad]] = some (rx71 x) := (dPt_eq (unoctet_Reader_c _)).trans ((dV_eq (asI_c _)).trans (ofG_eq hx))
def s71 (g : octet_Reader → Int → Option (Int × octet_Reader)) : Summ := ⟨[.pt 3, .v], r71 g⟩
theorem r71_eq {g : octet_Reader → Int → Option (Int × octet_Reader)} {y0 : octet_Reader} {y1 : Int} {x : Int × octet_Reader} (hx : g y0 y1 = some x) : (s71 g).run [.pointer (some ⟨0, 0, none⟩), .int .i64 y1] [some [.string ⟨⟨y0.s⟩⟩, .bool y0.made, .bool y0.bad]] = some (rx71 x) := r71_c hx
abbrev sums71 (octet_Get : (List UInt8) → Int → Int → Option (Int × Bool)) (octet_Reader_Text : octet_Reader → Int → Option ((List UInt8) × octet_Reader)) : List (Nat × Summ) := [(101, s101 octet_Get), (83, s83 octet_Reader_Text)]
theorem leads71 (octet_Get : (List UInt8) → Int → Int → Option (Int × Bool)) (octet_Reader_Text : octet_Reader → Int → Option ((List UInt8) × octet_Reader)) (hS : SumsOK Try.prog (aget (sums71 octet_Get octet_Reader_Text))) (ra0 : octet_Reader) (k : Int) (res : Int × octet_Reader) (h : octet_Reader_NumF octet_Get octet_Reader_Text ra0 k = some res) :
    Leads Try.prog 71 1 ⟨⟨71, 23, [(0, .pointer (some ⟨0, 0, none⟩)), (1, .int .i64 k)], [.code k71_10], [], false, none⟩, [], [(0, .cells [.string ⟨⟨ra0.s⟩⟩, .bool ra0.made, .bool ra0.bad])], 1⟩ (fun v H _ => Res 1 (rx71 res) v H) := by
  unfold octet_Reader_NumF at h
  refine ev_ok tab_ok hS true 3000 ?_
  conv => whnf
  refine br.h h ?_ ?_ ?_
  · rfl
  · clear h; intro hb h; conv => whnf
    obtain ⟨t, hy, h2⟩ := obind.elim h; clear h; have h := h2; clear h2
    refine sumK.introF [0] (sumRun_of (aqs := [.pointer (some ⟨0, 0, none⟩), .int .i64 (-1)]) (ws := [.win 0 0 3 true]) (n := 0) (m := 0) (t' := 1) (ra_cons rfl rfl (ra_cons rfl rfl ra_nil)) rfl (by rfl) (r83_eq hy) rfl rfl rfl rfl (wb_win rfl rfl rfl ⟨rfl, Nat.le_of_ble_eq_true rfl⟩ rfl rfl wb_nil) an_nil rfl) ?_
    conv => whnf
    obtain ⟨xg, hy, h2⟩ := obind.elim h; clear h; have h := h2; clear h2
    refine sumK.introF [] (sumRun_of (aqs := [.string ⟨⟨t.1⟩⟩, .int .i64 0, .int .i64 (-1)]) (ws := []) (n := 0) (m := 0) (t' := 1) (ra_cons rfl rfl (ra_cons rfl rfl (ra_cons rfl rfl ra_nil))) rfl (by rfl) (r101_eq hy) rfl rfl rfl rfl wb_nil an_nil rfl) ?_
    conv => whnf
    all_goals (cases h)
    all_goals exact Res.of [] rfl nw_0 (by decide) js_0 (wr_s (rfl) (hs_cells rfl) wr_0)
  clear h; intro hb h; conv => whnf
  refine br.h h ?_ ?_ ?_
  · rfl
  · clear h; intro hb h; conv => whnf
    obtain ⟨t1, hy, h2⟩ := obind.elim h; clear h; have h := h2; clear h2
    refine sumK.introF [0] (sumRun_of (aqs := [.pointer (some ⟨0, 0, none⟩), .int .i64 (-1)]) (ws := [.win 0 0 3 true]) (n := 0) (m := 0) (t' := 1) (ra_cons rfl rfl (ra_cons rfl rfl ra_nil)) rfl (by rfl) (r83_eq hy) rfl rfl rfl rfl (wb_win rfl rfl rfl ⟨rfl, Nat.le_of_ble_eq_true rfl⟩ rfl rfl wb_nil) an_nil rfl) ?_
    conv => whnf
    obtain ⟨xg1, hy, h2⟩ := obind.elim h; clear h; have h := h2; clear h2
    refine sumK.introF [] (sumRun_of (aqs := [.string ⟨⟨t1.1⟩⟩, .int .i64 0, .int .i64 (-1)]) (ws := []) (n := 0) (m := 0) (t' := 1) (ra_cons rfl rfl (ra_cons rfl rfl (ra_cons rfl rfl ra_nil))) rfl (by rfl) (r101_eq hy) rfl rfl rfl rfl wb_nil an_nil rfl) ?_
    conv => whnf
    all_goals (cases h)
    all_goals exact Res.of [] rfl nw_0 (by decide) js_0 (wr_s (rfl) (hs_cells rfl) wr_0)
  clear h; intro hb h; conv => whnf
  obtain ⟨t2, hy, h2⟩ := obind.elim h; clear h; have h := h2; clear h2
  refine sumK.introF [0] (sumRun_of (aqs := [.pointer (some ⟨0, 0, none⟩), .int .i64 k]) (ws := [.win 0 0 3 true]) (n := 0) (m := 0) (t' := 1) (ra_cons rfl rfl (ra_cons rfl rfl ra_nil)) rfl (by rfl) (r83_eq hy) rfl rfl rfl rfl (wb_win rfl rfl rfl ⟨rfl, Nat.le_of_ble_eq_true rfl⟩ rfl rfl wb_nil) an_nil rfl) ?_
  conv => whnf
  obtain ⟨xg2, hy, h2⟩ := obind.elim h; clear h; have h := h2; clear h2
  refine sumK.introF [] (sumRun_of (aqs := [.string ⟨⟨t2.1⟩⟩, .int .i64 0, .int .i64 k]) (ws := []) (n := 0) (m := 0) (t' := 1) (ra_cons rfl rfl (ra_cons rfl rfl (ra_cons rfl rfl ra_nil))) rfl (by rfl) (r101_eq hy) rfl rfl rfl rfl wb_nil an_nil rfl) ?_
  conv => whnf
  all_goals (cases h)
  all_goals exact Res.of [] rfl nw_0 (by decide) js_0 (wr_s (rfl) (hs_cells rfl) wr_0)
theorem ok71 (octet_Get : (List UInt8) → Int → Int → Option (Int × Bool)) (octet_Reader_Text : octet_Reader → Int → Option ((List UInt8) × octet_Reader)) (hS : SumsOK Try.prog (aget (sums71 octet_Get octet_Reader_Text))) : SumOK Try.prog 71 (s71 (octet_Reader_NumF octet_Get octet_Reader_Text)) := by
  refine SumOK.of_leads tab_ok (fun ar os r ha hr => ?_) ⟨Try.f71, rfl, by decide, rfl⟩
  replace hr : r71 (octet_Reader_NumF octet_Get octet_Reader_Text) ar (conts os) = some r := hr
  unfold r71 at hr
  generalize hc : conts os = C at hr
  have hq := dPt.elim hr; clear hr; obtain ⟨c0, l1, C, y0, rfl, rfl, e0, hr⟩ := hq; obtain rfl := unoctet_Reader_eq _ _ e0
  have hq := dV.elim hr; clear hr; obtain ⟨v1, l2, y1, rfl, e1, hr⟩ := hq; obtain rfl := asI_eq _ _ _ e1
  have hq := dEnd.elim hr; clear hr; obtain ⟨rfl, rfl, hr⟩ := hq
  have hq := ofG.elim hr; clear hr; obtain ⟨x, h, rfl⟩ := hq
  obtain ⟨os, rfl, ha, hc⟩ := kinds_some ha hc
  obtain rfl := kinds_nil hc
  exact ⟨_, rfl, leads71 octet_Get octet_Reader_Text hS _ _ x h⟩
def octet_Reader_Num : octet_Reader → Int → Option (Int × octet_Reader) := octet_Reader_NumF octet_Get octet_Reader_Text
theorem lift71 : SumOK Try.prog 71 (s71 octet_Reader_Num) := ok71 octet_Get octet_Reader_Text (SumsOK.of_tab ⟨lift101, lift83, trivial⟩)
end Go.Vm.Code

namespace Go.Vm.Code
open Go Go.Vm Go.Proofs
set_option maxRecDepth 100000
set_option maxHeartbeats 4000000
set_option linter.unusedVariables false

/-! cloakroom/octet.New -/
def octet_NewF (s : List UInt8) : Option octet_Reader :=
  some (octet_Reader.mk s true false)
def rx70 (x : octet_Reader) : SRes := ⟨.pointer (some ⟨0, 0, none⟩), [[.string ⟨⟨x.s⟩⟩, .bool x.made, .bool x.bad]], []⟩
def r70 (g : (List UInt8) → Option octet_Reader) : Dec := dV asS fun (y0 : List UInt8) => dEnd (ofG (g y0) rx70)
theorem r70_c {g : (List UInt8) → Option octet_Reader} {y0 : List UInt8} {x : octet_Reader} (hx : g y0 = some x) : r70 g [.string ⟨⟨y0⟩⟩] [] = some (rx70 x) := (dV_eq (asS_c)).trans (ofG_eq hx)
def s70 (g : (List UInt8) → Option octet_Reader) : Summ := ⟨[.v], r70 g⟩
theorem r70_eq {g : (List UInt8) → Option octet_Reader} {y0 : List UInt8} {x : octet_Reader} (hx : g y0 = some x) : (s70 g).run [.string ⟨⟨y0⟩⟩] [] = some (rx70 x) := r70_c hx
abbrev sums70 : List (Nat × Summ) := []
theorem leads70 (hS : SumsOK Try.prog (aget (sums70))) (s : List UInt8) (res : octet_Reader) (h : octet_NewF s = some res) :
    Leads Try.prog 70 0 ⟨⟨70, 6, [(0, .string ⟨⟨s⟩⟩)], [.code k70_3], [], false, none⟩, [], [], 0⟩ (fun v H _ => Res 0 (rx70 res) v H) := by
  unfold octet_NewF at h
  refine ev_ok tab_ok hS true 3000 ?_
  conv => whnf
  all_goals (cases h)
  all_goals exact Res.of [0] rfl (nw_s (rfl) (hs_cells rfl) nw_0) (by decide) (js_l (by decide) js_0) wr_0
theorem ok70 (hS : SumsOK Try.prog (aget (sums70))) : SumOK Try.prog 70 (s70 (octet_NewF)) := by
  refine SumOK.of_leads tab_ok (fun ar os r ha hr => ?_) ⟨Try.f70, rfl, by decide, rfl⟩
  replace hr : r70 (octet_NewF) ar (conts os) = some r := hr
  unfold r70 at hr
  generalize hc : conts os = C at hr
  have hq := dV.elim hr; clear hr; obtain ⟨v0, l1, y0, rfl, e0, hr⟩ := hq; obtain rfl := asS_eq _ _ e0
  have hq := dEnd.elim hr; clear hr; obtain ⟨rfl, rfl, hr⟩ := hq
  have hq := ofG.elim hr; clear hr; obtain ⟨x, h, rfl⟩ := hq
  obtain rfl := kinds_nil hc
  exact ⟨_, rfl, leads70 hS _ x h⟩
def octet_New : (List UInt8) → Option octet_Reader := octet_NewF
theorem lift70 : SumOK Try.prog 70 (s70 octet_New) := ok70 (SumsOK.of_tab trivial)
end Go.Vm.Code

/- A reader of bytes, in plain words. -/
namespace Go.Vm.Code
open Go Go.Vm

/-- a reader behind k bytes more -/
def rdr (r : octet_Reader) (k : Int) : octet_Reader := if r.bad = true ∨ k < 0 ∨ k > r.s.length then ⟨r.s, true, true⟩ else ⟨r.s.drop k.toNat, true, false⟩
def rdt (r : octet_Reader) (k : Int) : List UInt8 := if r.bad = true ∨ k < 0 ∨ k > r.s.length then [] else r.s.take k.toNat
theorem rBad_eq {r : octet_Reader} (h : r.made = true) : octet_Reader_Bad r = some (r.bad, r) := by
  unfold octet_Reader_Bad octet_Reader_BadF
  rw [h]; rfl
theorem rText_eq {r : octet_Reader} {k : Int} (h : r.made = true) : octet_Reader_Text r k = some (rdt r k, rdr r k) := by
  unfold octet_Reader_Text octet_Reader_TextF rdt rdr
  rw [rBad_eq h, Option.bind_some]
  simp only []
  obtain ⟨s, m, b⟩ := r
  simp only at h ⊢
  subst h
  cases b with
  | true => simp
  | false =>
    rw [cond_false]
    by_cases h1 : k < 0
    · rw [cond_p h1, if_pos (by omega), if_pos (by omega)]
    rw [cond_n h1]
    by_cases h2 : k > s.length
    · rw [cond_p h2, if_pos (by omega), if_pos (by omega)]
    · have e : (s.drop k.toNat).take (s.length - k.toNat) = s.drop k.toNat := List.take_of_length_le (by simp)
      rw [cond_n h2, oreq_p (by omega), oreq_p (by omega), if_neg (by simp; omega), if_neg (by simp; omega), e]
theorem rdr_made (r : octet_Reader) (k : Int) : (rdr r k).made = true := by unfold rdr; split <;> rfl
theorem rdr_bad {r : octet_Reader} {k : Int} : (rdr r k).bad = false ↔ r.bad = false ∧ 0 ≤ k ∧ k ≤ r.s.length := by
  unfold rdr
  split
  · rename_i h
    simp only [Bool.true_eq_false, false_iff]
    intro ⟨a, b, c⟩
    rcases h with h | h | h
    · rw [a] at h; cases h
    · omega
    · omega
  · rename_i h
    simp only [true_iff]
    cases hb : r.bad
    · exact ⟨rfl, by omega, by omega⟩
    · exact absurd (.inl hb) h
theorem rdr_len {r : octet_Reader} {k : Int} (h : (rdr r k).bad = false) : ((rdr r k).s.length : Int) = r.s.length - k := by
  obtain ⟨a, b, c⟩ := rdr_bad.1 h
  unfold rdr
  rw [if_neg (by rw [a]; simp; omega)]
  simp; omega
theorem rdr_step {r r' : octet_Reader} {k : Int} (h : rdr r k = r') (hb : r'.bad = false) : r.bad = false ∧ (r'.s.length : Int) + k = r.s.length := by
  subst h
  have := rdr_len hb
  exact ⟨(rdr_bad.1 hb).1, by omega⟩
theorem rdr_ok {s : List UInt8} {k : Int} (h0 : 0 ≤ k) (h1 : k ≤ s.length) : rdr ⟨s, true, false⟩ k = ⟨s.drop k.toNat, true, false⟩ := by
  unfold rdr; rw [if_neg (by simp; omega)]
theorem rdt_ok {s : List UInt8} {k : Int} (h0 : 0 ≤ k) (h1 : k ≤ s.length) : rdt ⟨s, true, false⟩ k = s.take k.toNat := by
  unfold rdt; rw [if_neg (by simp; omega)]
theorem rdt_len (r : octet_Reader) (k : Int) : (rdt r k).length ≤ r.s.length := by
  unfold rdt; split
  · simp
  · rw [List.length_take]; omega
/-- a number read -/
def rdn (r : octet_Reader) (k : Int) : Int := (valL (rdt r (if k < 1 ∨ k > 7 then -1 else k)) : Nat)
theorem rNum_eq {r : octet_Reader} {k : Int} (h : r.made = true) (hl : r.s.length < 2 ^ 61) : octet_Reader_Num r k = some (rdn r k, rdr r (if k < 1 ∨ k > 7 then -1 else k)) := by
  unfold octet_Reader_Num octet_Reader_NumF rdn
  have bad : octet_Reader_Text r (-1) = some ([], rdr r (-1)) := by
    rw [rText_eq h]; unfold rdt; rw [if_pos (by omega)]
  have e0 : rdt r (-1) = [] := by unfold rdt; rw [if_pos (by omega)]
  by_cases h1 : k < 1
  · rw [cond_p h1, bad, Option.bind_some, octet_Get_eq (by simp), if_pos (by omega), Option.bind_some, e0]; rfl
  rw [cond_n h1]
  by_cases h2 : k > 7
  · rw [cond_p h2, bad, Option.bind_some, octet_Get_eq (by simp), if_pos (by omega), Option.bind_some, e0]; rfl
  have hlen := rdt_len r k
  rw [cond_n h2, rText_eq h, Option.bind_some, octet_Get_eq (by simp only []; omega), Option.bind_some, if_neg (by omega)]
  simp only []
  unfold getS
  by_cases hc : r.bad = true ∨ k < 0 ∨ k > r.s.length
  · have e : rdt r k = [] := by unfold rdt; rw [if_pos hc]
    rw [e, if_neg (by simp; omega)]; rfl
  · have hl2 : (rdt r k).length = k.toNat := by unfold rdt; rw [if_neg hc]; simp; omega
    rw [if_pos (by omega)]
    have e2 : ((rdt r k).drop (0 : Int).toNat).take k.toNat = rdt r k := by
      rw [show (0 : Int).toNat = 0 from rfl, List.drop_zero, List.take_of_length_le (by omega)]
    have hv : valL (rdt r k) < 2 ^ 56 := by
      have := val_lt (rdt r k)
      rw [hl2] at this
      exact pow_step this (by omega)
    simp only [e2]
    rw [wI64 (by omega) (by omega)]
theorem getS_at {s : List UInt8} {p k : Int} (h0 : 0 ≤ p) (h1 : 1 ≤ k) (h8 : k ≤ 8) (h : p + k ≤ s.length) : getS s p k = (((valL ((s.drop p.toNat).take k.toNat) : Nat) : Int), true) := by
  unfold getS; rw [if_pos (by omega)]
theorem rNew_eq (s : List UInt8) : octet_New s = some ⟨s, true, false⟩ := rfl
end Go.Vm.Code

namespace Go.Vm.Code
open Go Go.Vm Go.Proofs
set_option maxRecDepth 100000
set_option maxHeartbeats 4000000
set_option linter.unusedVariables false

/-! cloakroom/cloakroomref07.Small -/
def R07_Small_s1 (l : List (List UInt8)) (most : Int) (i : Int) : Option (Sum Int Bool) :=
  cond (decide (i < (l.length : Int)))
    (
    oreq (decide ((0 : Int) ≤ i ∧ i < (l.length : Int))) <|
    (l[i.toNat]?).bind fun (e : List UInt8) =>
    cond (decide ((e.length : Int) > most))
      (
      some (.inr (false)))
      (
      some (.inl (wI .i64 (i + 1)))))
    (
    some (.inr (true)))
def R07_SmallF (l : List (List UInt8)) (most : Int) : Option Bool :=
  iter (fun st => R07_Small_s1 l most st) FUEL 0
def rx14 (x : Bool) : SRes := ⟨.bool x, [], [none]⟩
def r14 (g : (List (List UInt8)) → Int → Option Bool) : Dec := dSl 0 1 (unL asS) fun (y0 : List (List UInt8)) => dV (asI .i64) fun (y1 : Int) => dEnd (ofG (g y0 y1) rx14)
theorem r14_c {g : (List (List UInt8)) → Int → Option Bool} {y0 : List (List UInt8)} {y1 : Int} {x : Bool} (hx : g y0 y1 = some x) : r14 g [.slice (some ⟨0, 0, none⟩) y0.length 1, .int .i64 y1] [some (vS y0)] = some (rx14 x) := (dSl_eq (unS_vS _)).trans ((dV_eq (asI_c _)).trans (ofG_eq hx))
def s14 (g : (List (List UInt8)) → Int → Option Bool) : Summ := ⟨[.sl 1, .v], r14 g⟩
theorem r14_eq {g : (List (List UInt8)) → Int → Option Bool} {y0 : List (List UInt8)} {y1 : Int} {x : Bool} (hx : g y0 y1 = some x) : (s14 g).run [.slice (some ⟨0, 0, none⟩) y0.length 1, .int .i64 y1] [some (vS y0)] = some (rx14 x) := r14_c hx
abbrev sums14 : List (Nat × Summ) := []
def head14_1 (l : List (List UInt8)) (most : Int) (i : Int) : VM :=
  ⟨⟨14, 19, [(0, .slice (some ⟨0, 0, none⟩) l.length 1), (1, .int .i64 most), (5, .int .i64 i)], [.code k14_13, .inLoop k14_13, .inBlock 0, .code k14_18], [], false, none⟩, [], [(0, .row false (vS l))], 1⟩
theorem loop14_1 (hS : SumsOK Try.prog (aget (sums14))) (l : List (List UInt8)) (most : Int) (res : Bool) : ∀ fuel (st : Int) (o : Bool), iter (fun st => R07_Small_s1 l most st) fuel st = some o → (o = res) →
    Leads Try.prog 14 1 (head14_1 l most st) (fun v H _ => Res 1 (rx14 res) v H) := by
  intro fuel st o h hc
  refine iter_leads (head := fun st => head14_1 l most st) (C := fun o => (o = res)) ?_ fuel st o h hc
  clear h hc o st fuel
  intro i o h hc
  replace h : R07_Small_s1 l most i = some o := h
  show Leads Try.prog 14 1 (head14_1 l most i) (fun v H _ => Res 1 (rx14 res) v H)
  unfold R07_Small_s1 at h
  refine ev_ok tab_ok hS true 3000 ?_
  conv => whnf
  refine br.h2 h ?_ ?_ ?_
  · rfl
  · clear h; intro hb h; conv => whnf
    all_goals (cases h; cases hc)
    all_goals exact Res.of [] rfl nw_0 (by decide) js_0 (wr_n wr_0)
  clear h; intro hb h; conv => whnf
  replace h := oreq.elim h; have hb := h.1; replace h := h.2
  first | (refine req.intro hb ?_; conv => whnf) | skip
  obtain ⟨e, hy, h2⟩ := obind.elim h; clear h; have h := h2; clear h2
  refine rd.S hy (by first | rfl | (rw [Nat.zero_add, Nat.mul_one]; done) | omega) ?_
  conv => whnf
  refine br.h h ?_ ?_ ?_
  · rfl
  · clear h; intro hb h; conv => whnf
    all_goals (cases h; cases hc)
    all_goals exact Res.of [] rfl nw_0 (by decide) js_0 (wr_n wr_0)
  clear h; intro hb h; conv => whnf
  cases h; simp only [Sum.elim_inl, head14_1] at hc
  refine Leads.re hc [(0, 0)] rfl ?_ ?_ <;> (repeat' first | exact trivial | refine ⟨⟨_, rfl, rfl⟩, ?_⟩ | refine ⟨⟨_, _, rfl, rfl, .rowF (vI_flat _ _) id⟩, ?_⟩ | refine ⟨⟨_, _, rfl, rfl, .rowF (vS_flat _) id⟩, ?_⟩ | refine ⟨⟨_, _, rfl, rfl, .rowF (vB_flat _) id⟩, ?_⟩ | refine ⟨⟨_, _, rfl, rfl, .rowF (vT_flat (by first | exact cudp_Head_flat | exact capi_Addr_flat | exact coctet_Reader_flat) _) id⟩, ?_⟩ | refine ⟨⟨_, _, rfl, rfl, .tyF (vI_flat _ _)⟩, ?_⟩ | refine ⟨⟨_, _, rfl, rfl, .ty rfl⟩, ?_⟩ | refine ⟨⟨_, _, rfl, rfl, .cells rfl⟩, ?_⟩ | refine ⟨⟨_, _, rfl, rfl, .row rfl id⟩, ?_⟩ | refine ⟨⟨_, _, rfl, rfl, .cr rfl⟩, ?_⟩ | refine ⟨⟨_, _, rfl, rfl, .rc rfl⟩, ?_⟩ | refine ⟨⟨_, _, rfl, rfl, .marks⟩, ?_⟩ | refine ⟨⟨_, _, rfl, rfl, .siter _ _⟩, ?_⟩ | refine ⟨⟨_, _, rfl, rfl, .loop rfl rfl rfl rfl (by repeat' first | exact trivial | refine ⟨rfl, ?_⟩) rfl rfl rfl rfl⟩, ?_⟩)
theorem leads14 (hS : SumsOK Try.prog (aget (sums14))) (l : List (List UInt8)) (most : Int) (res : Bool) (h : R07_SmallF l most = some res) :
    Leads Try.prog 14 1 ⟨⟨14, 19, [(0, .slice (some ⟨0, 0, none⟩) l.length 1), (1, .int .i64 most)], [.code k14_20], [], false, none⟩, [], [(0, .row false (vS l))], 1⟩ (fun v H _ => Res 1 (rx14 res) v H) := by
  unfold R07_SmallF at h
  refine ev_ok tab_ok hS true 3000 ?_
  conv => whnf
  have hl := loop14_1 hS _ _ res _ _ _ h rfl; simp only [head14_1] at hl
  refine Leads.re hl [(0, 0)] rfl ?_ ?_ <;> (repeat' first | exact trivial | refine ⟨⟨_, rfl, rfl⟩, ?_⟩ | refine ⟨⟨_, _, rfl, rfl, .rowF (vI_flat _ _) id⟩, ?_⟩ | refine ⟨⟨_, _, rfl, rfl, .rowF (vS_flat _) id⟩, ?_⟩ | refine ⟨⟨_, _, rfl, rfl, .rowF (vB_flat _) id⟩, ?_⟩ | refine ⟨⟨_, _, rfl, rfl, .rowF (vT_flat (by first | exact cudp_Head_flat | exact capi_Addr_flat | exact coctet_Reader_flat) _) id⟩, ?_⟩ | refine ⟨⟨_, _, rfl, rfl, .tyF (vI_flat _ _)⟩, ?_⟩ | refine ⟨⟨_, _, rfl, rfl, .ty rfl⟩, ?_⟩ | refine ⟨⟨_, _, rfl, rfl, .cells rfl⟩, ?_⟩ | refine ⟨⟨_, _, rfl, rfl, .row rfl id⟩, ?_⟩ | refine ⟨⟨_, _, rfl, rfl, .cr rfl⟩, ?_⟩ | refine ⟨⟨_, _, rfl, rfl, .rc rfl⟩, ?_⟩ | refine ⟨⟨_, _, rfl, rfl, .marks⟩, ?_⟩ | refine ⟨⟨_, _, rfl, rfl, .siter _ _⟩, ?_⟩ | refine ⟨⟨_, _, rfl, rfl, .loop rfl rfl rfl rfl (by repeat' first | exact trivial | refine ⟨rfl, ?_⟩) rfl rfl rfl rfl⟩, ?_⟩)
theorem ok14 (hS : SumsOK Try.prog (aget (sums14))) : SumOK Try.prog 14 (s14 (R07_SmallF)) := by
  refine SumOK.of_leads tab_ok (fun ar os r ha hr => ?_) ⟨Try.f14, rfl, by decide, rfl⟩
  replace hr : r14 (R07_SmallF) ar (conts os) = some r := hr
  unfold r14 at hr
  generalize hc : conts os = C at hr
  have hq := dSl.elim hr; clear hr; obtain ⟨c0, l1, C, y0, rfl, rfl, e0, hr⟩ := hq; obtain rfl := unS_eq e0
  have hq := dV.elim hr; clear hr; obtain ⟨v1, l2, y1, rfl, e1, hr⟩ := hq; obtain rfl := asI_eq _ _ _ e1
  have hq := dEnd.elim hr; clear hr; obtain ⟨rfl, rfl, hr⟩ := hq
  have hq := ofG.elim hr; clear hr; obtain ⟨x, h, rfl⟩ := hq
  obtain ⟨os, rfl, ha, hc⟩ := kinds_some ha hc
  obtain rfl := kinds_nil hc
  exact ⟨_, rfl, leads14 hS _ _ x h⟩
def R07_Small : (List (List UInt8)) → Int → Option Bool := R07_SmallF
theorem lift14 : SumOK Try.prog 14 (s14 R07_Small) := ok14 (SumsOK.of_tab trivial)
end Go.Vm.Code

/- One byte, and small lists. -/
namespace Go.Vm.Code
open Go Go.Vm
theorem rdr_len_le (r : octet_Reader) (k : Int) : (rdr r k).s.length ≤ r.s.length := by unfold rdr; split <;> simp
/-- one byte's number -/
def b1 (s : List UInt8) (i : Nat) : Nat := valL ((s.drop i).take 1)
theorem b1_get {s : List UInt8} {i : Nat} (h : i < s.length) : b1 s i = s[i].toNat := by
  unfold b1
  rw [List.drop_eq_getElem_cons h]
  show valL [s[i]] = _
  rw [val_cons]; simp
theorem b1_lt (s : List UInt8) (i : Nat) : b1 s i < 256 := val_take_lt _ (by decide)
theorem small_eq {l : List (List UInt8)} {m : Int} (h : l.length < 2 ^ 20) : R07_Small l m = some (l.all fun x => decide ((x.length : Int) ≤ m)) := by
  unfold R07_Small R07_SmallF
  have key := iter_eq (step := fun st => R07_Small_s1 l m st) (fun st => (l.drop st.toNat).all fun x => decide ((x.length : Int) ≤ m)) (fun st => 0 ≤ st ∧ st ≤ l.length) (fun st => ((l.length : Int) - st).toNat) ?_ FUEL 0 ⟨by omega, by omega⟩ (by rw [FUEL_eq]; omega)
  · rw [key]; simp
  intro st ⟨g1, g2⟩
  obtain ⟨i, rfl⟩ := Int.eq_ofNat_of_zero_le g1
  unfold R07_Small_s1
  simp only [Int.toNat_natCast]
  by_cases hp : i < l.length
  · have ed : l.drop i = l[i] :: l.drop (i + 1) := List.drop_eq_getElem_cons hp
    rw [cond_p (by omega), oreq_p (by omega)]
    have e1 : l[i]? = some l[i] := by simp [hp]
    rw [e1, Option.bind_some]
    by_cases hb : (l[i].length : Int) > m
    · refine .inl ?_
      rw [cond_p hb, ed, List.all_cons, decide_eq_false (by omega), Bool.false_and]
    · refine .inr ⟨((i + 1 : Nat) : Int), ?_, ⟨by omega, by omega⟩, by omega, ?_⟩
      · rw [cond_n hb, wI64 (by omega) (by omega)]; rfl
      · rw [Int.toNat_natCast, ed, List.all_cons, decide_eq_true (by omega), Bool.true_and]
  · refine .inl ?_
    rw [cond_n (by omega), List.drop_of_length_le (by omega)]; rfl
end Go.Vm.Code

namespace Go.Vm.Code
open Go Go.Vm Go.Proofs
set_option maxRecDepth 100000
set_option maxHeartbeats 4000000
set_option linter.unusedVariables false

/-! cloakroom/udp.port -/
def udp_portF (n : Int) : Option Bool :=
  cond (decide (0 ≤ n))
    (
    some (decide (n ≤ 65535)))
    (
    some (false))
def rx60 (x : Bool) : SRes := ⟨.bool x, [], []⟩
def r60 (g : Int → Option Bool) : Dec := dV (asI .i64) fun (y0 : Int) => dEnd (ofG (g y0) rx60)
theorem r60_c {g : Int → Option Bool} {y0 : Int} {x : Bool} (hx : g y0 = some x) : r60 g [.int .i64 y0] [] = some (rx60 x) := (dV_eq (asI_c _)).trans (ofG_eq hx)
def s60 (g : Int → Option Bool) : Summ := ⟨[.v], r60 g⟩
theorem r60_eq {g : Int → Option Bool} {y0 : Int} {x : Bool} (hx : g y0 = some x) : (s60 g).run [.int .i64 y0] [] = some (rx60 x) := r60_c hx
abbrev sums60 : List (Nat × Summ) := []
theorem leads60 (hS : SumsOK Try.prog (aget (sums60))) (n : Int) (res : Bool) (h : udp_portF n = some res) :
    Leads Try.prog 60 0 ⟨⟨60, 9, [(0, .int .i64 n)], [.code k60_3], [], false, none⟩, [], [], 0⟩ (fun v H _ => Res 0 (rx60 res) v H) := by
  unfold udp_portF at h
  refine ev_ok tab_ok hS true 3000 ?_
  conv => whnf
  refine br.h h ?_ ?_ ?_
  · rfl
  · clear h; intro hb h; conv => whnf
    all_goals (cases h)
    all_goals exact Res.of [] rfl nw_0 (by decide) js_0 wr_0
  clear h; intro hb h; conv => whnf
  all_goals (cases h)
  all_goals exact Res.of [] rfl nw_0 (by decide) js_0 wr_0
theorem ok60 (hS : SumsOK Try.prog (aget (sums60))) : SumOK Try.prog 60 (s60 (udp_portF)) := by
  refine SumOK.of_leads tab_ok (fun ar os r ha hr => ?_) ⟨Try.f60, rfl, by decide, rfl⟩
  replace hr : r60 (udp_portF) ar (conts os) = some r := hr
  unfold r60 at hr
  generalize hc : conts os = C at hr
  have hq := dV.elim hr; clear hr; obtain ⟨v0, l1, y0, rfl, e0, hr⟩ := hq; obtain rfl := asI_eq _ _ _ e0
  have hq := dEnd.elim hr; clear hr; obtain ⟨rfl, rfl, hr⟩ := hq
  have hq := ofG.elim hr; clear hr; obtain ⟨x, h, rfl⟩ := hq
  obtain rfl := kinds_nil hc
  exact ⟨_, rfl, leads60 hS _ x h⟩
def udp_port : Int → Option Bool := udp_portF
theorem lift60 : SumOK Try.prog 60 (s60 udp_port) := ok60 (SumsOK.of_tab trivial)
end Go.Vm.Code

namespace Go.Vm.Code
open Go Go.Vm Go.Proofs
set_option maxRecDepth 100000
set_option maxHeartbeats 4000000
set_option linter.unusedVariables false

/-! cloakroom/udp.Put -/
def udp_Put_s1 (check_Of : (List UInt8) → Option Int) (check_Set : (List UInt8) → Int → Int → Int → Option (List UInt8)) (octet_Put : Int → Int → Option (List UInt8)) (ha0 : udp_Head) (payload : List UInt8) (p : List UInt8) (t48 : Int) (c : List Int) : Option (Sum (Int × (List Int)) ((List UInt8) × Int)) :=
  cond (decide (t48 < 4))
    (
    oreq (decide (0 ≤ t48 ∧ t48 < 4)) <|
    ([ha0.SPort, ha0.DPort, wI .i64 (8 + (payload.length : Int)), 0][t48.toNat]?).bind fun (e : Int) =>
    (octet_Put (wI .u64 e) 2).bind fun p4 =>
    oreq (decide ((c.length + p4.length) * 1 ≤ 2 ^ 47)) <|
    let row := c ++ (bI p4)
    some (.inl (wI .i64 (t48 + 1), row)))
    (
    oreq (decide ((c.length + payload.length) * 1 ≤ 2 ^ 47)) <|
    let row1 := c ++ (bI payload)
    oreq (decide (row1.length < 2 ^ 63)) <|
    oreq (decide (p.length + (iB row1).length < 2 ^ 63)) <|
    (check_Of (p ++ (iB row1))).bind fun xo =>
    cond (xo == 0)
      (
      (check_Set (iB row1) 6 2 65535).bind fun s =>
      some (.inr ((s, 0))))
      (
      (check_Set (iB row1) 6 2 (wI .u64 xo)).bind fun s1 =>
      some (.inr ((s1, 0)))))
def udp_PutF (check_Of : (List UInt8) → Option Int) (check_Set : (List UInt8) → Int → Int → Int → Option (List UInt8)) (ipfour_Pseudo : api_Addr → api_Addr → Int → Int → Option (List UInt8)) (octet_Put : Int → Int → Option (List UInt8)) (udp_port : Int → Option Bool) (ha0 : udp_Head) (src : api_Addr) (dst : api_Addr) (payload : List UInt8) : Option ((List UInt8) × Int) :=
  (ipfour_Pseudo src dst 17 (wI .i64 (8 + (payload.length : Int)))).bind fun p =>
  (udp_port ha0.SPort).bind fun p1 =>
  cond (!p1)
    (
    some (([], 1)))
    (
    (udp_port ha0.DPort).bind fun p2 =>
    cond (!p2)
      (
      some (([], 1)))
      (
      cond (p == [])
        (
        some (([], 1)))
        (
        let t := decide ((wI .i64 (8 + (payload.length : Int))) > 65535)
        cond (t)
          (
          some (([], 5)))
          (
          (octet_Put (wI .u64 ha0.SPort) 2).bind fun p3 =>
          oreq (decide (p3.length * 1 ≤ 2 ^ 47)) <|
          iter (fun st => udp_Put_s1 check_Of check_Set octet_Put ha0 payload p st.1 st.2) FUEL (1, bI p3)))))
def rx16 (x : (List UInt8) × Int) : SRes := ⟨.tuple ⟨[.string ⟨⟨x.1⟩⟩, .int .i64 x.2]⟩, [], []⟩
def r16 (g : udp_Head → api_Addr → api_Addr → (List UInt8) → Option ((List UInt8) × Int)) : Dec := dV uvudp_Head fun (y0 : udp_Head) => dV uvapi_Addr fun (y1 : api_Addr) => dV uvapi_Addr fun (y2 : api_Addr) => dV asS fun (y3 : List UInt8) => dEnd (ofG (g y0 y1 y2 y3) rx16)
theorem r16_c {g : udp_Head → api_Addr → api_Addr → (List UInt8) → Option ((List UInt8) × Int)} {y0 : udp_Head} {y1 : api_Addr} {y2 : api_Addr} {y3 : List UInt8} {x : (List UInt8) × Int} (hx : g y0 y1 y2 y3 = some x) : r16 g [.agg ⟨[.int .i64 y0.SPort, .int .i64 y0.DPort]⟩, .agg ⟨[.bool y1.V6, .int .u64 y1.Hi, .int .u64 y1.Lo]⟩, .agg ⟨[.bool y2.V6, .int .u64 y2.Hi, .int .u64 y2.Lo]⟩, .string ⟨⟨y3⟩⟩] [] = some (rx16 x) := (dV_eq (uvudp_Head_c _)).trans ((dV_eq (uvapi_Addr_c _)).trans ((dV_eq (uvapi_Addr_c _)).trans ((dV_eq (asS_c)).trans (ofG_eq hx))))
def s16 (g : udp_Head → api_Addr → api_Addr → (List UInt8) → Option ((List UInt8) × Int)) : Summ := ⟨[.v, .v, .v, .v], r16 g⟩
theorem r16_eq {g : udp_Head → api_Addr → api_Addr → (List UInt8) → Option ((List UInt8) × Int)} {y0 : udp_Head} {y1 : api_Addr} {y2 : api_Addr} {y3 : List UInt8} {x : (List UInt8) × Int} (hx : g y0 y1 y2 y3 = some x) : (s16 g).run [.agg ⟨[.int .i64 y0.SPort, .int .i64 y0.DPort]⟩, .agg ⟨[.bool y1.V6, .int .u64 y1.Hi, .int .u64 y1.Lo]⟩, .agg ⟨[.bool y2.V6, .int .u64 y2.Hi, .int .u64 y2.Lo]⟩, .string ⟨⟨y3⟩⟩] [] = some (rx16 x) := r16_c hx
abbrev sums16 (check_Of : (List UInt8) → Option Int) (check_Set : (List UInt8) → Int → Int → Int → Option (List UInt8)) (ipfour_Pseudo : api_Addr → api_Addr → Int → Int → Option (List UInt8)) (octet_Put : Int → Int → Option (List UInt8)) (udp_port : Int → Option Bool) : List (Nat × Summ) := [(64, s64 check_Of), (65, s65 check_Set), (27, s27 ipfour_Pseudo), (62, s62 octet_Put), (60, s60 udp_port)]
def head16_1 (ha0 : udp_Head) (payload : List UInt8) (p : List UInt8) (t48 : Int) (c : List Int) : VM :=
  ⟨⟨16, 69, [(3, .string ⟨⟨payload⟩⟩), (11, .string ⟨⟨p⟩⟩), (12, .pointer (some ⟨3, 0, none⟩)), (47, .agg ⟨[.int .i64 ha0.SPort, .int .i64 ha0.DPort, .int .i64 (wI .i64 (8 + (payload.length : Int))), .int .i64 0]⟩), (48, .int .i64 t48)], [.code k16_25, .inLoop k16_25, .inBlock 1, .code k16_41], [], false, none⟩, [], [(3, .ty 114 [.pointer (some ⟨3, 0, none⟩), .func (.method "") ⟨[.slice (some ⟨4, 0, none⟩) c.length 1]⟩ ⟨[]⟩]), (4, .ty 5 (vI .u8 c))], 5⟩
theorem loop16_1 (check_Of : (List UInt8) → Option Int) (check_Set : (List UInt8) → Int → Int → Int → Option (List UInt8)) (ipfour_Pseudo : api_Addr → api_Addr → Int → Int → Option (List UInt8)) (octet_Put : Int → Int → Option (List UInt8)) (udp_port : Int → Option Bool) (hS : SumsOK Try.prog (aget (sums16 check_Of check_Set ipfour_Pseudo octet_Put udp_port))) (ha0 : udp_Head) (payload : List UInt8) (p : List UInt8) (res : (List UInt8) × Int) : ∀ fuel (st : Int × (List Int)) (o : (List UInt8) × Int), iter (fun st => udp_Put_s1 check_Of check_Set octet_Put ha0 payload p st.1 st.2) fuel st = some o → (o = res) →
    Leads Try.prog 16 0 (head16_1 ha0 payload p st.1 st.2) (fun v H _ => Res 0 (rx16 res) v H) := by
  intro fuel st o h hc
  refine iter_leads (head := fun st => head16_1 ha0 payload p st.1 st.2) (C := fun o => (o = res)) ?_ fuel st o h hc
  clear h hc o st fuel
  intro st o h hc
  obtain ⟨t48, c⟩ := st
  replace h : udp_Put_s1 check_Of check_Set octet_Put ha0 payload p t48 c = some o := h
  show Leads Try.prog 16 0 (head16_1 ha0 payload p t48 c) (fun v H _ => Res 0 (rx16 res) v H)
  unfold udp_Put_s1 at h
  refine ev_ok tab_ok hS true 3000 ?_
  conv => whnf
  refine br.h h ?_ ?_ ?_
  · rfl
  · clear h; intro hb h; conv => whnf
    replace h := oreq.elim h; have hb := h.1; replace h := h.2
    first | (refine req.intro hb ?_; conv => whnf) | skip
    obtain ⟨e, hy, h2⟩ := obind.elim h; clear h; have h := h2; clear h2
    refine rd.I hy (by first | rfl | (rw [Nat.zero_add, Nat.mul_one]; done) | omega) ?_
    conv => whnf
    obtain ⟨p4, hy, h2⟩ := obind.elim h; clear h; have h := h2; clear h2
    refine sumK.introF [] (sumRun_of (aqs := [.int .u64 (wI .u64 e), .int .i64 2]) (ws := []) (n := 0) (m := 0) (t' := 5) (ra_cons rfl rfl (ra_cons rfl rfl ra_nil)) rfl (by rfl) (r62_eq hy) rfl rfl rfl rfl wb_nil an_nil rfl) ?_
    conv => whnf
    replace h := oreq.elim h; have hb := h.1; replace h := h.2
    refine req.intro (apb_req (of_decide_eq_true hb) (by first | rfl | omega | (simp; done) | (simp; omega) | (simp at *; omega)) rfl rfl (by first | rfl | omega | (simp; done) | (simp; omega) | (simp at *; omega)) (by first | rfl | exact vI_one _ _ | exact vS_one _ | exact vB_one _ | exact vT_one (by first | exact cudp_Head_one | exact capi_Addr_one | exact coctet_Reader_one) _ | (rw [ofBytes_vI]; exact vI_one _ _) | simp [vI_one, vS_one, vB_one, vI_drop, vI_take, vS_drop, vS_take]) rfl) ?_
    conv => whnf
    let row : List Int := c ++ (bI p4)
    refine pk_apW (xs := c) (ys := bI p4) (ofBytes_vI _) (by first | (simp; done) | (simp; omega)) (by first | (simp; done) | (simp; omega)) ?_
    conv => whnf
    cases h; simp only [Sum.elim_inl, head16_1] at hc
    refine Leads.re hc [(3, 3), (4, 5)] rfl ?_ ?_ <;> (repeat' first | exact trivial | refine ⟨⟨_, rfl, rfl⟩, ?_⟩ | refine ⟨⟨_, _, rfl, rfl, .rowF (vI_flat _ _) id⟩, ?_⟩ | refine ⟨⟨_, _, rfl, rfl, .rowF (vS_flat _) id⟩, ?_⟩ | refine ⟨⟨_, _, rfl, rfl, .rowF (vB_flat _) id⟩, ?_⟩ | refine ⟨⟨_, _, rfl, rfl, .rowF (vT_flat (by first | exact cudp_Head_flat | exact capi_Addr_flat | exact coctet_Reader_flat) _) id⟩, ?_⟩ | refine ⟨⟨_, _, rfl, rfl, .tyF (vI_flat _ _)⟩, ?_⟩ | refine ⟨⟨_, _, rfl, rfl, .ty rfl⟩, ?_⟩ | refine ⟨⟨_, _, rfl, rfl, .cells rfl⟩, ?_⟩ | refine ⟨⟨_, _, rfl, rfl, .row rfl id⟩, ?_⟩ | refine ⟨⟨_, _, rfl, rfl, .cr rfl⟩, ?_⟩ | refine ⟨⟨_, _, rfl, rfl, .rc rfl⟩, ?_⟩ | refine ⟨⟨_, _, rfl, rfl, .marks⟩, ?_⟩ | refine ⟨⟨_, _, rfl, rfl, .siter _ _⟩, ?_⟩ | refine ⟨⟨_, _, rfl, rfl, .loop rfl rfl rfl rfl (by repeat' first | exact trivial | refine ⟨rfl, ?_⟩) rfl rfl rfl rfl⟩, ?_⟩)
  clear h; intro hb h; conv => whnf
  replace h := oreq.elim h; have hb := h.1; replace h := h.2
  refine req.intro (apb_req (of_decide_eq_true hb) (by first | rfl | omega | (simp; done) | (simp; omega) | (simp at *; omega)) rfl rfl (by first | rfl | omega | (simp; done) | (simp; omega) | (simp at *; omega)) (by first | rfl | exact vI_one _ _ | exact vS_one _ | exact vB_one _ | exact vT_one (by first | exact cudp_Head_one | exact capi_Addr_one | exact coctet_Reader_one) _ | (rw [ofBytes_vI]; exact vI_one _ _) | simp [vI_one, vS_one, vB_one, vI_drop, vI_take, vS_drop, vS_take]) rfl) ?_
  conv => whnf
  let row1 : List Int := c ++ (bI payload)
  refine pk_apW (xs := c) (ys := bI payload) (ofBytes_vI _) (by first | (simp; done) | (simp; omega)) (by first | (simp; done) | (simp; omega)) ?_
  conv => whnf
  replace h := oreq.elim h; have hb := h.1; replace h := h.2
  refine req.intro (us_req rfl (by first | rfl | (simp; done)) (by first | rfl | omega | (simp; done) | (simp; omega) | (simp at *; omega)) (of_decide_eq_true hb)) ?_
  conv => whnf
  refine pk_us ?_
  conv => whnf
  replace h := oreq.elim h; have hb := h.1; replace h := h.2
  first | (refine req.intro hb ?_; conv => whnf) | skip
  obtain ⟨xo, hy, h2⟩ := obind.elim h; clear h; have h := h2; clear h2
  refine sumK.introF [] (sumRun_of (aqs := [.string ⟨⟨p ++ (iB row1)⟩⟩]) (ws := []) (n := 0) (m := 0) (t' := 16) (ra_cons rfl rfl ra_nil) rfl (by rfl) (r64_eq hy) rfl rfl rfl rfl wb_nil an_nil rfl) ?_
  conv => whnf
  refine br.h h ?_ ?_ ?_
  · rfl
  · clear h; intro hb h; conv => whnf
    obtain ⟨s, hy, h2⟩ := obind.elim h; clear h; have h := h2; clear h2
    refine sumK.introF [] (sumRun_of (aqs := [.string ⟨⟨iB row1⟩⟩, .int .i64 6, .int .i64 2, .int .u64 65535]) (ws := []) (n := 0) (m := 0) (t' := 16) (ra_cons rfl rfl (ra_cons rfl rfl (ra_cons rfl rfl (ra_cons rfl rfl ra_nil)))) rfl (by rfl) (r65_eq hy) rfl rfl rfl rfl wb_nil an_nil rfl) ?_
    conv => whnf
    all_goals (cases h; cases hc)
    all_goals exact Res.of [] rfl nw_0 (by decide) js_0 wr_0
  clear h; intro hb h; conv => whnf
  obtain ⟨s1, hy, h2⟩ := obind.elim h; clear h; have h := h2; clear h2
  refine sumK.introF [] (sumRun_of (aqs := [.string ⟨⟨iB row1⟩⟩, .int .i64 6, .int .i64 2, .int .u64 (wI .u64 xo)]) (ws := []) (n := 0) (m := 0) (t' := 16) (ra_cons rfl rfl (ra_cons rfl rfl (ra_cons rfl rfl (ra_cons rfl rfl ra_nil)))) rfl (by rfl) (r65_eq hy) rfl rfl rfl rfl wb_nil an_nil rfl) ?_
  conv => whnf
  all_goals (cases h; cases hc)
  all_goals exact Res.of [] rfl nw_0 (by decide) js_0 wr_0
theorem leads16 (check_Of : (List UInt8) → Option Int) (check_Set : (List UInt8) → Int → Int → Int → Option (List UInt8)) (ipfour_Pseudo : api_Addr → api_Addr → Int → Int → Option (List UInt8)) (octet_Put : Int → Int → Option (List UInt8)) (udp_port : Int → Option Bool) (hS : SumsOK Try.prog (aget (sums16 check_Of check_Set ipfour_Pseudo octet_Put udp_port))) (ha0 : udp_Head) (src : api_Addr) (dst : api_Addr) (payload : List UInt8) (res : (List UInt8) × Int) (h : udp_PutF check_Of check_Set ipfour_Pseudo octet_Put udp_port ha0 src dst payload = some res) :
    Leads Try.prog 16 0 ⟨⟨16, 69, [(0, .agg ⟨[.int .i64 ha0.SPort, .int .i64 ha0.DPort]⟩), (1, .agg ⟨[.bool src.V6, .int .u64 src.Hi, .int .u64 src.Lo]⟩), (2, .agg ⟨[.bool dst.V6, .int .u64 dst.Hi, .int .u64 dst.Lo]⟩), (3, .string ⟨⟨payload⟩⟩)], [.code k16_47], [], false, none⟩, [], [], 0⟩ (fun v H _ => Res 0 (rx16 res) v H) := by
  unfold udp_PutF at h
  refine ev_ok tab_ok hS true 3000 ?_
  conv => whnf
  obtain ⟨p, hy, h2⟩ := obind.elim h; clear h; have h := h2; clear h2
  refine sumK.introF [] (sumRun_of (aqs := [.agg ⟨[.bool src.V6, .int .u64 src.Hi, .int .u64 src.Lo]⟩, .agg ⟨[.bool dst.V6, .int .u64 dst.Hi, .int .u64 dst.Lo]⟩, .int .i64 17, .int .i64 (wI .i64 (8 + (payload.length : Int)))]) (ws := []) (n := 0) (m := 0) (t' := 3) (ra_cons rfl rfl (ra_cons rfl rfl (ra_cons rfl rfl (ra_cons rfl rfl ra_nil)))) rfl (by rfl) (r27_eq hy) rfl rfl rfl rfl wb_nil an_nil rfl) ?_
  conv => whnf
  obtain ⟨p1, hy, h2⟩ := obind.elim h; clear h; have h := h2; clear h2
  refine sumK.introF [] (sumRun_of (aqs := [.int .i64 ha0.SPort]) (ws := []) (n := 0) (m := 0) (t' := 3) (ra_cons rfl rfl ra_nil) rfl (by rfl) (r60_eq hy) rfl rfl rfl rfl wb_nil an_nil rfl) ?_
  conv => whnf
  refine br.h h ?_ ?_ ?_
  · rfl
  · clear h; intro hb h; conv => whnf
    all_goals (cases h)
    all_goals exact Res.of [] rfl nw_0 (by decide) js_0 wr_0
  clear h; intro hb h; conv => whnf
  obtain ⟨p2, hy, h2⟩ := obind.elim h; clear h; have h := h2; clear h2
  refine sumK.introF [] (sumRun_of (aqs := [.int .i64 ha0.DPort]) (ws := []) (n := 0) (m := 0) (t' := 3) (ra_cons rfl rfl ra_nil) rfl (by rfl) (r60_eq hy) rfl rfl rfl rfl wb_nil an_nil rfl) ?_
  conv => whnf
  refine br.h h ?_ ?_ ?_
  · rfl
  · clear h; intro hb h; conv => whnf
    all_goals (cases h)
    all_goals exact Res.of [] rfl nw_0 (by decide) js_0 wr_0
  clear h; intro hb h; conv => whnf
  refine br.h h ?_ ?_ ?_
  · rfl
  · clear h; intro hb h; conv => whnf
    all_goals (cases h)
    all_goals exact Res.of [] rfl nw_0 (by decide) js_0 wr_0
  clear h; intro hb h; conv => whnf
  let t : Bool := decide ((wI .i64 (8 + (payload.length : Int))) > 65535)
  refine br.h h ?_ ?_ ?_
  · rfl
  · clear h; intro hb h; conv => whnf
    all_goals (cases h)
    all_goals exact Res.of [] rfl nw_0 (by decide) js_0 wr_0
  clear h; intro hb h; conv => whnf
  refine ev_ok tab_ok hS true 3000 ?_
  conv => whnf
  obtain ⟨p3, hy, h2⟩ := obind.elim h; clear h; have h := h2; clear h2
  refine sumK.introF [] (sumRun_of (aqs := [.int .u64 (wI .u64 ha0.SPort), .int .i64 2]) (ws := []) (n := 0) (m := 0) (t' := 4) (ra_cons rfl rfl (ra_cons rfl rfl ra_nil)) rfl (by rfl) (r62_eq hy) rfl rfl rfl rfl wb_nil an_nil rfl) ?_
  conv => whnf
  replace h := oreq.elim h; have hb := h.1; replace h := h.2
  refine req.intro (ap0b_req (of_decide_eq_true hb) (by first | rfl | omega | (simp; done) | (simp; omega) | (simp at *; omega)) rfl rfl) ?_
  conv => whnf
  refine pk_ap0I (ys := bI p3) (ofBytes_vI _) (by first | rfl | (simp; done) | (simp; omega)) ?_
  conv => whnf
  have hl := loop16_1 check_Of check_Set ipfour_Pseudo octet_Put udp_port hS _ _ _ res _ _ _ h rfl; simp only [head16_1] at hl
  refine Leads.re hl [(3, 3), (4, 4)] rfl ?_ ?_ <;> (repeat' first | exact trivial | refine ⟨⟨_, rfl, rfl⟩, ?_⟩ | refine ⟨⟨_, _, rfl, rfl, .rowF (vI_flat _ _) id⟩, ?_⟩ | refine ⟨⟨_, _, rfl, rfl, .rowF (vS_flat _) id⟩, ?_⟩ | refine ⟨⟨_, _, rfl, rfl, .rowF (vB_flat _) id⟩, ?_⟩ | refine ⟨⟨_, _, rfl, rfl, .rowF (vT_flat (by first | exact cudp_Head_flat | exact capi_Addr_flat | exact coctet_Reader_flat) _) id⟩, ?_⟩ | refine ⟨⟨_, _, rfl, rfl, .tyF (vI_flat _ _)⟩, ?_⟩ | refine ⟨⟨_, _, rfl, rfl, .ty rfl⟩, ?_⟩ | refine ⟨⟨_, _, rfl, rfl, .cells rfl⟩, ?_⟩ | refine ⟨⟨_, _, rfl, rfl, .row rfl id⟩, ?_⟩ | refine ⟨⟨_, _, rfl, rfl, .cr rfl⟩, ?_⟩ | refine ⟨⟨_, _, rfl, rfl, .rc rfl⟩, ?_⟩ | refine ⟨⟨_, _, rfl, rfl, .marks⟩, ?_⟩ | refine ⟨⟨_, _, rfl, rfl, .siter _ _⟩, ?_⟩ | refine ⟨⟨_, _, rfl, rfl, .loop rfl rfl rfl rfl (by repeat' first | exact trivial | refine ⟨rfl, ?_⟩) rfl rfl rfl rfl⟩, ?_⟩)
theorem ok16 (check_Of : (List UInt8) → Option Int) (check_Set : (List UInt8) → Int → Int → Int → Option (List UInt8)) (ipfour_Pseudo : api_Addr → api_Addr → Int → Int → Option (List UInt8)) (octet_Put : Int → Int → Option (List UInt8)) (udp_port : Int → Option Bool) (hS : SumsOK Try.prog (aget (sums16 check_Of check_Set ipfour_Pseudo octet_Put udp_port))) : SumOK Try.prog 16 (s16 (udp_PutF check_Of check_Set ipfour_Pseudo octet_Put udp_port)) := by
  refine SumOK.of_leads tab_ok (fun ar os r ha hr => ?_) ⟨Try.f16, rfl, by decide, rfl⟩
  replace hr : r16 (udp_PutF check_Of check_Set ipfour_Pseudo octet_Put udp_port) ar (conts os) = some r := hr
  unfold r16 at hr
  generalize hc : conts os = C at hr
  have hq := dV.elim hr; clear hr; obtain ⟨v0, l1, y0, rfl, e0, hr⟩ := hq; obtain rfl := uvudp_Head_eq _ _ e0
  have hq := dV.elim hr; clear hr; obtain ⟨v1, l2, y1, rfl, e1, hr⟩ := hq; obtain rfl := uvapi_Addr_eq _ _ e1
  have hq := dV.elim hr; clear hr; obtain ⟨v2, l3, y2, rfl, e2, hr⟩ := hq; obtain rfl := uvapi_Addr_eq _ _ e2
  have hq := dV.elim hr; clear hr; obtain ⟨v3, l4, y3, rfl, e3, hr⟩ := hq; obtain rfl := asS_eq _ _ e3
  have hq := dEnd.elim hr; clear hr; obtain ⟨rfl, rfl, hr⟩ := hq
  have hq := ofG.elim hr; clear hr; obtain ⟨x, h, rfl⟩ := hq
  obtain rfl := kinds_nil hc
  exact ⟨_, rfl, leads16 check_Of check_Set ipfour_Pseudo octet_Put udp_port hS _ _ _ _ x h⟩
def udp_Put : udp_Head → api_Addr → api_Addr → (List UInt8) → Option ((List UInt8) × Int) := udp_PutF check_Of check_Set ipfour_Pseudo octet_Put udp_port
theorem lift16 : SumOK Try.prog 16 (s16 udp_Put) := ok16 check_Of check_Set ipfour_Pseudo octet_Put udp_port (SumsOK.of_tab ⟨lift64, lift65, lift27, lift62, lift60, trivial⟩)
end Go.Vm.Code

namespace Go.Vm.Code
open Go Go.Vm Go.Proofs
set_option maxRecDepth 100000
set_option maxHeartbeats 4000000
set_option linter.unusedVariables false

/-! cloakroom/udp.Get -/
def udp_GetF (check_Right : (List UInt8) → Option Bool) (ipfour_Pseudo : api_Addr → api_Addr → Int → Int → Option (List UInt8)) (octet_New : (List UInt8) → Option octet_Reader) (octet_Reader_Bad : octet_Reader → Option (Bool × octet_Reader)) (octet_Reader_Num : octet_Reader → Int → Option (Int × octet_Reader)) (s : List UInt8) (src : api_Addr) (dst : api_Addr) : Option (udp_Head × (List UInt8) × Int) :=
  (octet_New s).bind fun n =>
  (octet_Reader_Num n 2).bind fun n1 =>
  (octet_Reader_Num n1.2 2).bind fun n2 =>
  (octet_Reader_Num n2.2 2).bind fun n3 =>
  (octet_Reader_Num n3.2 2).bind fun n4 =>
  (octet_Reader_Bad n4.2).bind fun b =>
  cond (b.1)
    (
    some ((udp_Head.mk 0 0, [], 2)))
    (
    cond (decide (n3.1 < 8))
      (
      some ((udp_Head.mk 0 0, [], 3)))
      (
      cond (decide (n3.1 > (s.length : Int)))
        (
        some ((udp_Head.mk 0 0, [], 2)))
        (
        (ipfour_Pseudo src dst 17 n3.1).bind fun p =>
        cond (p == [])
          (
          some ((udp_Head.mk 0 0, [], 1)))
          (
          cond (n4.1 == 0)
            (
            cond (src.V6)
              (
              some ((udp_Head.mk 0 0, [], 4)))
              (
              cond (n4.1 != 0)
                (
                oreq (decide ((0 : Int) ≤ n3.1 ∧ n3.1 ≤ (s.length : Int))) <|
                oreq (decide (p.length + (s.take n3.1.toNat).length < 2 ^ 63)) <|
                (check_Right (p ++ (s.take n3.1.toNat))).bind fun xr =>
                cond (!xr)
                  (
                  some ((udp_Head.mk 0 0, [], 4)))
                  (
                  oreq (decide ((0 : Int) ≤ n3.1 ∧ n3.1 ≤ (s.length : Int) ∧ (0 : Int) ≤ (8 : Int) ∧ (8 : Int) ≤ (n3.1.toNat : Int))) <|
                  some ((udp_Head.mk n1.1 n2.1, (s.drop 8).take (n3.1.toNat - 8), 0))))
                (
                oreq (decide ((0 : Int) ≤ n3.1 ∧ n3.1 ≤ (s.length : Int) ∧ (0 : Int) ≤ (8 : Int) ∧ (8 : Int) ≤ (n3.1.toNat : Int))) <|
                some ((udp_Head.mk n1.1 n2.1, (s.drop 8).take (n3.1.toNat - 8), 0)))))
            (
            cond (n4.1 != 0)
              (
              oreq (decide ((0 : Int) ≤ n3.1 ∧ n3.1 ≤ (s.length : Int))) <|
              oreq (decide (p.length + (s.take n3.1.toNat).length < 2 ^ 63)) <|
              (check_Right (p ++ (s.take n3.1.toNat))).bind fun xr1 =>
              cond (!xr1)
                (
                some ((udp_Head.mk 0 0, [], 4)))
                (
                oreq (decide ((0 : Int) ≤ n3.1 ∧ n3.1 ≤ (s.length : Int) ∧ (0 : Int) ≤ (8 : Int) ∧ (8 : Int) ≤ (n3.1.toNat : Int))) <|
                some ((udp_Head.mk n1.1 n2.1, (s.drop 8).take (n3.1.toNat - 8), 0))))
              (
              oreq (decide ((0 : Int) ≤ n3.1 ∧ n3.1 ≤ (s.length : Int) ∧ (0 : Int) ≤ (8 : Int) ∧ (8 : Int) ≤ (n3.1.toNat : Int))) <|
              some ((udp_Head.mk n1.1 n2.1, (s.drop 8).take (n3.1.toNat - 8), 0))))))))
def rx18 (x : udp_Head × (List UInt8) × Int) : SRes := ⟨.tuple ⟨[.agg ⟨[.int .i64 x.1.SPort, .int .i64 x.1.DPort]⟩, .string ⟨⟨x.2.1⟩⟩, .int .i64 x.2.2]⟩, [], []⟩
def r18 (g : (List UInt8) → api_Addr → api_Addr → Option (udp_Head × (List UInt8) × Int)) : Dec := dV asS fun (y0 : List UInt8) => dV uvapi_Addr fun (y1 : api_Addr) => dV uvapi_Addr fun (y2 : api_Addr) => dEnd (ofG (g y0 y1 y2) rx18)
theorem r18_c {g : (List UInt8) → api_Addr → api_Addr → Option (udp_Head × (List UInt8) × Int)} {y0 : List UInt8} {y1 : api_Addr} {y2 : api_Addr} {x : udp_Head × (List UInt8) × Int} (hx : g y0 y1 y2 = some x) : r18 g [.string ⟨⟨y0⟩⟩, .agg ⟨[.bool y1.V6, .int .u64 y1.Hi, .int .u64 y1.Lo]⟩, .agg ⟨[.bool y2.V6, .int .u64 y2.Hi, .int .u64 y2.Lo]⟩] [] = some (rx18 x) := (dV_eq (asS_c)).trans ((dV_eq (uvapi_Addr_c _)).trans ((dV_eq (uvapi_Addr_c _)).trans (ofG_eq hx)))
def s18 (g : (List UInt8) → api_Addr → api_Addr → Option (udp_Head × (List UInt8) × Int)) : Summ := ⟨[.v, .v, .v], r18 g⟩
theorem r18_eq {g : (List UInt8) → api_Addr → api_Addr → Option (udp_Head × (List UInt8) × Int)} {y0 : List UInt8} {y1 : api_Addr} {y2 : api_Addr} {x : udp_Head × (List UInt8) × Int} (hx : g y0 y1 y2 = some x) : (s18 g).run [.string ⟨⟨y0⟩⟩, .agg ⟨[.bool y1.V6, .int .u64 y1.Hi, .int .u64 y1.Lo]⟩, .agg ⟨[.bool y2.V6, .int .u64 y2.Hi, .int .u64 y2.Lo]⟩] [] = some (rx18 x) := r18_c hx
abbrev sums18 (check_Right : (List UInt8) → Option Bool) (ipfour_Pseudo : api_Addr → api_Addr → Int → Int → Option (List UInt8)) (octet_New : (List UInt8) → Option octet_Reader) (octet_Reader_Bad : octet_Reader → Option (Bool × octet_Reader)) (octet_Reader_Num : octet_Reader → Int → Option (Int × octet_Reader)) : List (Nat × Summ) := [(73, s73 check_Right), (27, s27 ipfour_Pseudo), (70, s70 octet_New), (72, s72 octet_Reader_Bad), (71, s71 octet_Reader_Num)]
theorem leads18 (check_Right : (List UInt8) → Option Bool) (ipfour_Pseudo : api_Addr → api_Addr → Int → Int → Option (List UInt8)) (octet_New : (List UInt8) → Option octet_Reader) (octet_Reader_Bad : octet_Reader → Option (Bool × octet_Reader)) (octet_Reader_Num : octet_Reader → Int → Option (Int × octet_Reader)) (hS : SumsOK Try.prog (aget (sums18 check_Right ipfour_Pseudo octet_New octet_Reader_Bad octet_Reader_Num))) (s : List UInt8) (src : api_Addr) (dst : api_Addr) (res : udp_Head × (List UInt8) × Int) (h : udp_GetF check_Right ipfour_Pseudo octet_New octet_Reader_Bad octet_Reader_Num s src dst = some res) :
    Leads Try.prog 18 0 ⟨⟨18, 70, [(0, .string ⟨⟨s⟩⟩), (1, .agg ⟨[.bool src.V6, .int .u64 src.Hi, .int .u64 src.Lo]⟩), (2, .agg ⟨[.bool dst.V6, .int .u64 dst.Hi, .int .u64 dst.Lo]⟩)], [.code k18_43], [], false, none⟩, [], [], 0⟩ (fun v H _ => Res 0 (rx18 res) v H) := by
  unfold udp_GetF at h
  refine ev_ok tab_ok hS true 3000 ?_
  conv => whnf
  obtain ⟨n, hy, h2⟩ := obind.elim h; clear h; have h := h2; clear h2
  refine sumK.introF [3] (sumRun_of (aqs := [.string ⟨⟨s⟩⟩]) (ws := []) (n := 1) (m := 0) (t' := 4) (ra_cons rfl rfl ra_nil) rfl (by rfl) (r70_eq hy) rfl rfl rfl rfl wb_nil (an_cons (rfl) an_nil) rfl) ?_
  conv => whnf
  obtain ⟨n1, hy, h2⟩ := obind.elim h; clear h; have h := h2; clear h2
  refine sumK.introF [3] (sumRun_of (aqs := [.pointer (some ⟨0, 0, none⟩), .int .i64 2]) (ws := [.win 3 0 3 true]) (n := 0) (m := 0) (t' := 4) (ra_cons rfl rfl (ra_cons rfl rfl ra_nil)) rfl (by rfl) (r71_eq hy) rfl rfl rfl rfl (wb_win rfl rfl rfl ⟨rfl, Nat.le_of_ble_eq_true rfl⟩ rfl rfl wb_nil) an_nil rfl) ?_
  conv => whnf
  obtain ⟨n2, hy, h2⟩ := obind.elim h; clear h; have h := h2; clear h2
  refine sumK.introF [3] (sumRun_of (aqs := [.pointer (some ⟨0, 0, none⟩), .int .i64 2]) (ws := [.win 3 0 3 true]) (n := 0) (m := 0) (t' := 4) (ra_cons rfl rfl (ra_cons rfl rfl ra_nil)) rfl (by rfl) (r71_eq hy) rfl rfl rfl rfl (wb_win rfl rfl rfl ⟨rfl, Nat.le_of_ble_eq_true rfl⟩ rfl rfl wb_nil) an_nil rfl) ?_
  conv => whnf
  obtain ⟨n3, hy, h2⟩ := obind.elim h; clear h; have h := h2; clear h2
  refine sumK.introF [3] (sumRun_of (aqs := [.pointer (some ⟨0, 0, none⟩), .int .i64 2]) (ws := [.win 3 0 3 true]) (n := 0) (m := 0) (t' := 5) (ra_cons rfl rfl (ra_cons rfl rfl ra_nil)) rfl (by rfl) (r71_eq hy) rfl rfl rfl rfl (wb_win rfl rfl rfl ⟨rfl, Nat.le_of_ble_eq_true rfl⟩ rfl rfl wb_nil) an_nil rfl) ?_
  conv => whnf
  obtain ⟨n4, hy, h2⟩ := obind.elim h; clear h; have h := h2; clear h2
  refine sumK.introF [3] (sumRun_of (aqs := [.pointer (some ⟨0, 0, none⟩), .int .i64 2]) (ws := [.win 3 0 3 true]) (n := 0) (m := 0) (t' := 5) (ra_cons rfl rfl (ra_cons rfl rfl ra_nil)) rfl (by rfl) (r71_eq hy) rfl rfl rfl rfl (wb_win rfl rfl rfl ⟨rfl, Nat.le_of_ble_eq_true rfl⟩ rfl rfl wb_nil) an_nil rfl) ?_
  conv => whnf
  obtain ⟨b, hy, h2⟩ := obind.elim h; clear h; have h := h2; clear h2
  refine sumK.introF [3] (sumRun_of (aqs := [.pointer (some ⟨0, 0, none⟩)]) (ws := [.win 3 0 3 true]) (n := 0) (m := 0) (t' := 5) (ra_cons rfl rfl ra_nil) rfl (by rfl) (r72_eq hy) rfl rfl rfl rfl (wb_win rfl rfl rfl ⟨rfl, Nat.le_of_ble_eq_true rfl⟩ rfl rfl wb_nil) an_nil rfl) ?_
  conv => whnf
  refine br.h h ?_ ?_ ?_
  · rfl
  · clear h; intro hb h; conv => whnf
    all_goals (cases h)
    all_goals exact Res.of [] rfl nw_0 (by decide) js_0 wr_0
  clear h; intro hb h; conv => whnf
  refine br.h h ?_ ?_ ?_
  · rfl
  · clear h; intro hb h; conv => whnf
    all_goals (cases h)
    all_goals exact Res.of [] rfl nw_0 (by decide) js_0 wr_0
  clear h; intro hb h; conv => whnf
  refine br.h h ?_ ?_ ?_
  · rfl
  · clear h; intro hb h; conv => whnf
    all_goals (cases h)
    all_goals exact Res.of [] rfl nw_0 (by decide) js_0 wr_0
  clear h; intro hb h; conv => whnf
  obtain ⟨p, hy, h2⟩ := obind.elim h; clear h; have h := h2; clear h2
  refine sumK.introF [] (sumRun_of (aqs := [.agg ⟨[.bool src.V6, .int .u64 src.Hi, .int .u64 src.Lo]⟩, .agg ⟨[.bool dst.V6, .int .u64 dst.Hi, .int .u64 dst.Lo]⟩, .int .i64 17, .int .i64 n3.1]) (ws := []) (n := 0) (m := 0) (t' := 5) (ra_cons rfl rfl (ra_cons rfl rfl (ra_cons rfl rfl (ra_cons rfl rfl ra_nil)))) rfl (by rfl) (r27_eq hy) rfl rfl rfl rfl wb_nil an_nil rfl) ?_
  conv => whnf
  refine br.h h ?_ ?_ ?_
  · rfl
  · clear h; intro hb h; conv => whnf
    all_goals (cases h)
    all_goals exact Res.of [] rfl nw_0 (by decide) js_0 wr_0
  clear h; intro hb h; conv => whnf
  refine br.h2 h ?_ ?_ ?_
  · rfl
  · clear h; intro hb h; conv => whnf
    refine br.h2 h ?_ ?_ ?_
    · rfl
    · clear h; intro hb h; conv => whnf
      replace h := oreq.elim h; have hb := h.1; replace h := h.2
      first | (refine req.intro hb ?_; conv => whnf) | skip
      all_goals (cases h)
      all_goals exact Res.of [] rfl nw_0 (by decide) js_0 wr_0
    clear h; intro hb h; conv => whnf
    replace h := oreq.elim h; have hb := h.1; replace h := h.2
    first | (refine req.intro hb ?_; conv => whnf) | skip
    replace h := oreq.elim h; have hb := h.1; replace h := h.2
    first | (refine req.intro hb ?_; conv => whnf) | skip
    obtain ⟨xr1, hy, h2⟩ := obind.elim h; clear h; have h := h2; clear h2
    refine sumK.introF [] (sumRun_of (aqs := [.string ⟨⟨p ++ (s.take n3.1.toNat)⟩⟩]) (ws := []) (n := 0) (m := 0) (t' := 5) (ra_cons rfl rfl ra_nil) rfl (by rfl) (r73_eq hy) rfl rfl rfl rfl wb_nil an_nil rfl) ?_
    conv => whnf
    refine br.h h ?_ ?_ ?_
    · rfl
    · clear h; intro hb h; conv => whnf
      all_goals (cases h)
      all_goals exact Res.of [] rfl nw_0 (by decide) js_0 wr_0
    clear h; intro hb h; conv => whnf
    replace h := oreq.elim h; have hb := h.1; replace h := h.2
    first | (refine req.intro hb ?_; conv => whnf) | skip
    all_goals (cases h)
    all_goals exact Res.of [] rfl nw_0 (by decide) js_0 wr_0
  clear h; intro hb h; conv => whnf
  refine br.h h ?_ ?_ ?_
  · rfl
  · clear h; intro hb h; conv => whnf
    refine br.pos ?_ ?_; (focus (clear h; first | assumption | (simp_all; done)))
    conv => whnf
    all_goals (cases h)
    all_goals exact Res.of [] rfl nw_0 (by decide) js_0 wr_0
  clear h; intro hb h; conv => whnf
  refine br.h2 h ?_ ?_ ?_
  · rfl
  · clear h; intro hb h; conv => whnf
    replace h := oreq.elim h; have hb := h.1; replace h := h.2
    first | (refine req.intro hb ?_; conv => whnf) | skip
    all_goals (cases h)
    all_goals exact Res.of [] rfl nw_0 (by decide) js_0 wr_0
  clear h; intro hb h; conv => whnf
  replace h := oreq.elim h; have hb := h.1; replace h := h.2
  first | (refine req.intro hb ?_; conv => whnf) | skip
  replace h := oreq.elim h; have hb := h.1; replace h := h.2
  first | (refine req.intro hb ?_; conv => whnf) | skip
  obtain ⟨xr, hy, h2⟩ := obind.elim h; clear h; have h := h2; clear h2
  refine sumK.introF [] (sumRun_of (aqs := [.string ⟨⟨p ++ (s.take n3.1.toNat)⟩⟩]) (ws := []) (n := 0) (m := 0) (t' := 5) (ra_cons rfl rfl ra_nil) rfl (by rfl) (r73_eq hy) rfl rfl rfl rfl wb_nil an_nil rfl) ?_
  conv => whnf
  refine br.h h ?_ ?_ ?_
  · rfl
  · clear h; intro hb h; conv => whnf
    all_goals (cases h)
    all_goals exact Res.of [] rfl nw_0 (by decide) js_0 wr_0
  clear h; intro hb h; conv => whnf
  replace h := oreq.elim h; have hb := h.1; replace h := h.2
  first | (refine req.intro hb ?_; conv => whnf) | skip
  all_goals (cases h)
  all_goals exact Res.of [] rfl nw_0 (by decide) js_0 wr_0
theorem ok18 (check_Right : (List UInt8) → Option Bool) (ipfour_Pseudo : api_Addr → api_Addr → Int → Int → Option (List UInt8)) (octet_New : (List UInt8) → Option octet_Reader) (octet_Reader_Bad : octet_Reader → Option (Bool × octet_Reader)) (octet_Reader_Num : octet_Reader → Int → Option (Int × octet_Reader)) (hS : SumsOK Try.prog (aget (sums18 check_Right ipfour_Pseudo octet_New octet_Reader_Bad octet_Reader_Num))) : SumOK Try.prog 18 (s18 (udp_GetF check_Right ipfour_Pseudo octet_New octet_Reader_Bad octet_Reader_Num)) := by
  refine SumOK.of_leads tab_ok (fun ar os r ha hr => ?_) ⟨Try.f18, rfl, by decide, rfl⟩
  replace hr : r18 (udp_GetF check_Right ipfour_Pseudo octet_New octet_Reader_Bad octet_Reader_Num) ar (conts os) = some r := hr
  unfold r18 at hr
  generalize hc : conts os = C at hr
  have hq := dV.elim hr; clear hr; obtain ⟨v0, l1, y0, rfl, e0, hr⟩ := hq; obtain rfl := asS_eq _ _ e0
  have hq := dV.elim hr; clear hr; obtain ⟨v1, l2, y1, rfl, e1, hr⟩ := hq; obtain rfl := uvapi_Addr_eq _ _ e1
  have hq := dV.elim hr; clear hr; obtain ⟨v2, l3, y2, rfl, e2, hr⟩ := hq; obtain rfl := uvapi_Addr_eq _ _ e2
  have hq := dEnd.elim hr; clear hr; obtain ⟨rfl, rfl, hr⟩ := hq
  have hq := ofG.elim hr; clear hr; obtain ⟨x, h, rfl⟩ := hq
  obtain rfl := kinds_nil hc
  exact ⟨_, rfl, leads18 check_Right ipfour_Pseudo octet_New octet_Reader_Bad octet_Reader_Num hS _ _ _ x h⟩
def udp_Get : (List UInt8) → api_Addr → api_Addr → Option (udp_Head × (List UInt8) × Int) := udp_GetF check_Right ipfour_Pseudo octet_New octet_Reader_Bad octet_Reader_Num
theorem lift18 : SumOK Try.prog 18 (s18 udp_Get) := ok18 check_Right ipfour_Pseudo octet_New octet_Reader_Bad octet_Reader_Num (SumsOK.of_tab ⟨lift73, lift27, lift70, lift72, lift71, trivial⟩)
end Go.Vm.Code

namespace Go.Vm.Code
open Go Go.Vm Go.Proofs
set_option maxRecDepth 100000
set_option maxHeartbeats 4000000
set_option linter.unusedVariables false

/-! cloakroom/cloakroomref08.in -/
def R08_inF (n : Int) : Option Bool :=
  cond (decide (n ≥ 0))
    (
    some (decide (n ≤ 65535)))
    (
    some (false))
def rx66 (x : Bool) : SRes := ⟨.bool x, [], []⟩
def r66 (g : Int → Option Bool) : Dec := dV (asI .i64) fun (y0 : Int) => dEnd (ofG (g y0) rx66)
theorem r66_c {g : Int → Option Bool} {y0 : Int} {x : Bool} (hx : g y0 = some x) : r66 g [.int .i64 y0] [] = some (rx66 x) := (dV_eq (asI_c _)).trans (ofG_eq hx)
def s66 (g : Int → Option Bool) : Summ := ⟨[.v], r66 g⟩
theorem r66_eq {g : Int → Option Bool} {y0 : Int} {x : Bool} (hx : g y0 = some x) : (s66 g).run [.int .i64 y0] [] = some (rx66 x) := r66_c hx
abbrev sums66 : List (Nat × Summ) := []
theorem leads66 (hS : SumsOK Try.prog (aget (sums66))) (n : Int) (res : Bool) (h : R08_inF n = some res) :
    Leads Try.prog 66 0 ⟨⟨66, 9, [(0, .int .i64 n)], [.code k66_3], [], false, none⟩, [], [], 0⟩ (fun v H _ => Res 0 (rx66 res) v H) := by
  unfold R08_inF at h
  refine ev_ok tab_ok hS true 3000 ?_
  conv => whnf
  refine br.h h ?_ ?_ ?_
  · rfl
  · clear h; intro hb h; conv => whnf
    all_goals (cases h)
    all_goals exact Res.of [] rfl nw_0 (by decide) js_0 wr_0
  clear h; intro hb h; conv => whnf
  all_goals (cases h)
  all_goals exact Res.of [] rfl nw_0 (by decide) js_0 wr_0
theorem ok66 (hS : SumsOK Try.prog (aget (sums66))) : SumOK Try.prog 66 (s66 (R08_inF)) := by
  refine SumOK.of_leads tab_ok (fun ar os r ha hr => ?_) ⟨Try.f66, rfl, by decide, rfl⟩
  replace hr : r66 (R08_inF) ar (conts os) = some r := hr
  unfold r66 at hr
  generalize hc : conts os = C at hr
  have hq := dV.elim hr; clear hr; obtain ⟨v0, l1, y0, rfl, e0, hr⟩ := hq; obtain rfl := asI_eq _ _ _ e0
  have hq := dEnd.elim hr; clear hr; obtain ⟨rfl, rfl, hr⟩ := hq
  have hq := ofG.elim hr; clear hr; obtain ⟨x, h, rfl⟩ := hq
  obtain rfl := kinds_nil hc
  exact ⟨_, rfl, leads66 hS _ x h⟩
def R08_in : Int → Option Bool := R08_inF
theorem lift66 : SumOK Try.prog 66 (s66 R08_in) := ok66 (SumsOK.of_tab trivial)
end Go.Vm.Code
