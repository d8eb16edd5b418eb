import Derived.Test.YtgkpojcckgbcjaaVmLift
import Derived.Test.YtgkpojcckgbcjaaCodeA
/- Plain lemmas on the lifted functions' words. -/
namespace Go.Vm
open Go

/-! numbers of the machine -/
theorem wI64 {n : Int} (h1 : -9223372036854775808 ≤ n) (h2 : n < 9223372036854775808) : wI .i64 n = n := by
  show IntKind.wrap .i64 n = n; rw [IntKind.wrap_i64]; omega
theorem wU64 {n : Int} (h1 : 0 ≤ n) (h2 : n < 18446744073709551616) : wI .u64 n = n := by
  show IntKind.wrap .u64 n = n
  simp only [IntKind.wrap, IntKind.bits, IntKind.signed]; simp; omega
theorem wU32 {n : Int} (h1 : 0 ≤ n) (h2 : n < 4294967296) : wI .u32 n = n := by
  show IntKind.wrap .u32 n = n
  simp only [IntKind.wrap, IntKind.bits, IntKind.signed]; simp; omega
theorem wU16 {n : Int} (h1 : 0 ≤ n) (h2 : n < 65536) : wI .u16 n = n := by
  show IntKind.wrap .u16 n = n
  simp only [IntKind.wrap, IntKind.bits, IntKind.signed]; simp; omega
theorem wU8 {n : Int} (h1 : 0 ≤ n) (h2 : n < 256) : wI .u8 n = n := by
  show IntKind.wrap .u8 n = n
  simp only [IntKind.wrap, IntKind.bits, IntKind.signed]; simp; omega
theorem wU64m (n : Int) : wI .u64 n = n % 18446744073709551616 := by
  show IntKind.wrap .u64 n = _
  simp only [IntKind.wrap, IntKind.bits, IntKind.signed]; simp
theorem wU32m (n : Int) : wI .u32 n = n % 4294967296 := by
  show IntKind.wrap .u32 n = _
  simp only [IntKind.wrap, IntKind.bits, IntKind.signed]; simp
theorem wU16m (n : Int) : wI .u16 n = n % 65536 := by
  show IntKind.wrap .u16 n = _
  simp only [IntKind.wrap, IntKind.bits, IntKind.signed]; simp
theorem wU8m (n : Int) : wI .u8 n = n % 256 := by
  show IntKind.wrap .u8 n = _
  simp only [IntKind.wrap, IntKind.bits, IntKind.signed]; simp

theorem bv64 {n : Nat} (h : n < 18446744073709551616) : (BitVec.ofInt 64 (n : Int)).toNat = n := by
  rw [BitVec.toNat_ofInt]; omega
theorem andI64 {a b : Nat} (ha : a < 9223372036854775808) (hb : b < 9223372036854775808) : andI .i64 (a : Int) (b : Int) = ((a &&& b : Nat) : Int) := by
  have h : a &&& b ≤ a := Nat.and_le_left
  show IntKind.wrap .i64 _ = _
  rw [show IntKind.bits .i64 = 64 from rfl, BitVec.toNat_and, bv64 (by omega), bv64 (by omega)]
  exact wI64 (by omega) (by omega)
theorem iorI64 {a b : Nat} (ha : a < 9223372036854775808) (hb : b < 9223372036854775808) : iorI .i64 (a : Int) (b : Int) = ((a ||| b : Nat) : Int) := by
  have h : a ||| b < 2 ^ 63 := Nat.or_lt_two_pow (by omega) (by omega)
  show IntKind.wrap .i64 _ = _
  rw [show IntKind.bits .i64 = 64 from rfl, BitVec.toNat_or, bv64 (by omega), bv64 (by omega)]
  exact wI64 (by omega) (by omega)
theorem andU64 {a b : Nat} (ha : a < 18446744073709551616) (hb : b < 18446744073709551616) : andI .u64 (a : Int) (b : Int) = ((a &&& b : Nat) : Int) := by
  have h : a &&& b ≤ a := Nat.and_le_left
  show IntKind.wrap .u64 _ = _
  rw [show IntKind.bits .u64 = 64 from rfl, BitVec.toNat_and, bv64 (by omega), bv64 (by omega)]
  exact wU64 (by omega) (by omega)
theorem iorU64 {a b : Nat} (ha : a < 18446744073709551616) (hb : b < 18446744073709551616) : iorI .u64 (a : Int) (b : Int) = ((a ||| b : Nat) : Int) := by
  have h : a ||| b < 2 ^ 64 := Nat.or_lt_two_pow (by omega) (by omega)
  show IntKind.wrap .u64 _ = _
  rw [show IntKind.bits .u64 = 64 from rfl, BitVec.toNat_or, bv64 (by omega), bv64 (by omega)]
  exact wU64 (by omega) (by omega)
theorem ixorU64 {a b : Nat} (ha : a < 18446744073709551616) (hb : b < 18446744073709551616) : ixorI .u64 (a : Int) (b : Int) = ((a ^^^ b : Nat) : Int) := by
  have h : a ^^^ b < 2 ^ 64 := Nat.xor_lt_two_pow (by omega) (by omega)
  show IntKind.wrap .u64 _ = _
  rw [show IntKind.bits .u64 = 64 from rfl, BitVec.toNat_xor, bv64 (by omega), bv64 (by omega)]
  exact wU64 (by omega) (by omega)
theorem and_mask (a k : Nat) : a &&& (2 ^ k - 1) = a % 2 ^ k := Nat.and_two_pow_sub_one_eq_mod a k
theorem or_low {a b k : Nat} (hb : b < 2 ^ k) : (a * 2 ^ k) ||| b = a * 2 ^ k + b := by
  rw [Nat.mul_comm]; exact (Nat.two_pow_add_eq_or_of_lt hb a).symm
/-- a number's lowest bits -/
theorem andI64_mask (k : Nat) {a m : Int} (hm : m = 2 ^ k - 1) (hk : k ≤ 62) (h0 : 0 ≤ a) (h1 : a < 9223372036854775808) : andI .i64 a m = a % 2 ^ k := by
  obtain ⟨n, rfl⟩ := Int.eq_ofNat_of_zero_le h0
  have hp : 2 ^ k ≤ 2 ^ 62 := Nat.pow_le_pow_right (by decide) hk
  have hp1 : 1 ≤ 2 ^ k := Nat.one_le_two_pow
  have : m = ((2 ^ k - 1 : Nat) : Int) := by rw [hm]; push_cast [hp1]; rfl
  rw [this, andI64 (by omega) (by omega), and_mask]; push_cast; rfl
theorem andU64_mask (k : Nat) {a m : Int} (hm : m = 2 ^ k - 1) (hk : k ≤ 64) (h0 : 0 ≤ a) (h1 : a < 18446744073709551616) : andI .u64 a m = a % 2 ^ k := by
  obtain ⟨n, rfl⟩ := Int.eq_ofNat_of_zero_le h0
  have hp : 2 ^ k ≤ 2 ^ 64 := Nat.pow_le_pow_right (by decide) hk
  have hp1 : 1 ≤ 2 ^ k := Nat.one_le_two_pow
  have : m = ((2 ^ k - 1 : Nat) : Int) := by rw [hm]; push_cast [hp1]; rfl
  rw [this, andU64 (by omega) (by omega), and_mask]; push_cast; rfl
/-- two numbers whose bits lie apart -/
theorem iorI64_low (k : Nat) {a b : Int} (h0 : 0 ≤ a) (h1 : a * 2 ^ k < 9223372036854775808) (hb0 : 0 ≤ b) (hb : b < 2 ^ k) (hb1 : b < 9223372036854775808) : iorI .i64 (a * 2 ^ k) b = a * 2 ^ k + b := by
  obtain ⟨n, rfl⟩ := Int.eq_ofNat_of_zero_le h0
  obtain ⟨m, rfl⟩ := Int.eq_ofNat_of_zero_le hb0
  have e : ((n : Int) * 2 ^ k) = ((n * 2 ^ k : Nat) : Int) := by push_cast; rfl
  rw [e] at h1 ⊢
  rw [iorI64 (by omega) (by omega), or_low (by exact_mod_cast hb)]; push_cast; rfl
theorem iorU64_low (k : Nat) {a b : Int} (h0 : 0 ≤ a) (h1 : a * 2 ^ k < 18446744073709551616) (hb0 : 0 ≤ b) (hb : b < 2 ^ k) (hb1 : b < 18446744073709551616) : iorI .u64 (a * 2 ^ k) b = a * 2 ^ k + b := by
  obtain ⟨n, rfl⟩ := Int.eq_ofNat_of_zero_le h0
  obtain ⟨m, rfl⟩ := Int.eq_ofNat_of_zero_le hb0
  have e : ((n : Int) * 2 ^ k) = ((n * 2 ^ k : Nat) : Int) := by push_cast; rfl
  rw [e] at h1 ⊢
  rw [iorU64 (by omega) (by omega), or_low (by exact_mod_cast hb)]; push_cast; rfl
theorem fdivP (a : Int) (k : Nat) : a.fdiv (2 ^ k) = a / 2 ^ k := Int.fdiv_eq_ediv_of_nonneg a (Int.le_of_lt (Int.pow_pos (by decide)))

/-! steps -/
theorem oreq_p {α : Type} {p : Prop} [Decidable p] {x : Option α} (h : p) : oreq (decide p) x = x := oreq.mk (decide_eq_true h)
theorem cond_p {α : Type} {p : Prop} [Decidable p] {x y : α} (h : p) : cond (decide p) x y = x := by rw [decide_eq_true h, cond_true]
theorem cond_n {α : Type} {p : Prop} [Decidable p] {x y : α} (h : ¬ p) : cond (decide p) x y = y := by rw [decide_eq_false h, cond_false]
theorem cond_dec {α : Type} {p : Prop} [Decidable p] {x y : α} : cond (decide p) x y = if p then x else y := by
  by_cases h : p <;> simp [h]

/-! loops -/
theorem iter_eq {σ ρ : Type} {step : σ → Option (Sum σ ρ)} (F : σ → ρ) (P : σ → Prop) (μ : σ → Nat)
    (h : ∀ s, P s → step s = some (.inr (F s)) ∨ ∃ s', step s = some (.inl s') ∧ P s' ∧ μ s' < μ s ∧ F s' = F s) : ∀ n s, P s → μ s < n → iter step n s = some (F s)
  | 0, s, hp, hn => by omega
  | n + 1, s, hp, hn => by
    rw [iter]
    rcases h s hp with e | ⟨s', e, hp', hm, hf⟩
    · rw [e]
    · rw [e]; exact hf ▸ iter_eq F P μ h n s' hp' (by omega)
theorem FUEL_eq : FUEL = 18446744073709551616 := rfl
end Go.Vm

/- Numbers as bytes, the highest one first: plain Lean, no program. -/
namespace Go.Vm
open Go

/-- the lowest bytes of a number, the highest one first -/
def be (n : Nat) : Nat → List UInt8
  | 0 => []
  | r + 1 => UInt8.ofNat (n / 256 ^ r) :: be n r
/-- the number of bytes -/
def valL (l : List UInt8) : Nat := l.foldl (fun n b => n * 256 + b.toNat) 0

@[simp] theorem be_len (n : Nat) : ∀ k, (be n k).length = k
  | 0 => rfl
  | k + 1 => by simp [be, be_len n k]
theorem be_snoc (n : Nat) : ∀ k, be n (k + 1) = be (n / 256) k ++ [UInt8.ofNat n]
  | 0 => by simp [be]
  | k + 1 => by
    rw [be, be_snoc n k, be, Nat.div_div_eq_div_mul, Nat.pow_succ, Nat.mul_comm 256]; rfl
theorem be_mod (n : Nat) : ∀ k, be (n % 256 ^ k) k = be n k
  | 0 => rfl
  | k + 1 => by
    rw [be_snoc, be_snoc, Nat.pow_succ, Nat.mul_comm, Nat.mod_mul_right_div_self, be_mod (n / 256) k]
    congr 2
    apply UInt8.toNat_inj.1
    simp only [UInt8.toNat_ofNat']
    rw [Nat.mod_mul_right_mod]
theorem val_foldl (l : List UInt8) : ∀ n : Nat, l.foldl (fun n b => n * 256 + b.toNat) n = n * 256 ^ l.length + valL l := by
  induction l with
  | nil => intro n; simp [valL]
  | cons b l ih =>
    intro n
    rw [valL, List.foldl_cons, ih, List.foldl_cons, ih, List.length_cons, Nat.pow_succ]
    rw [Nat.zero_mul, Nat.zero_add, Nat.add_mul, Nat.mul_assoc, Nat.mul_comm (256 ^ _) 256, Nat.add_assoc]
@[simp] theorem val_nil : valL [] = 0 := rfl
theorem val_cons (b : UInt8) (l : List UInt8) : valL (b :: l) = b.toNat * 256 ^ l.length + valL l := by
  rw [valL, List.foldl_cons, val_foldl]; simp
theorem val_append (l m : List UInt8) : valL (l ++ m) = valL l * 256 ^ m.length + valL m := by
  rw [valL, List.foldl_append, val_foldl]; rfl
theorem val_snoc (l : List UInt8) (b : UInt8) : valL (l ++ [b]) = valL l * 256 + b.toNat := by
  rw [val_append]; simp [val_cons]
theorem val_lt : ∀ l : List UInt8, valL l < 256 ^ l.length
  | [] => by simp
  | b :: l => by
    have h := val_lt l
    have hb := b.toNat_lt
    rw [val_cons, List.length_cons, Nat.pow_succ]
    have : b.toNat * 256 ^ l.length + 256 ^ l.length ≤ 256 * 256 ^ l.length := by
      rw [← Nat.succ_mul]; exact Nat.mul_le_mul_right _ (by omega)
    rw [Nat.mul_comm (256 ^ l.length)]; omega
theorem val_be (n : Nat) : ∀ k, valL (be n k) = n % 256 ^ k
  | 0 => by simp [be, Nat.mod_one]
  | k + 1 => by
    have e : n % 256 ^ (k + 1) = n % 256 + 256 * (n / 256 % 256 ^ k) := by rw [Nat.pow_succ', Nat.mod_mul]
    rw [be_snoc, val_snoc, val_be (n / 256) k, UInt8.toNat_ofNat', e]
    generalize n / 256 % 256 ^ k = x
    omega
theorem val_be_lt {n k : Nat} (h : n < 256 ^ k) : valL (be n k) = n := by rw [val_be, Nat.mod_eq_of_lt h]
theorem be_val : ∀ l : List UInt8, be (valL l) l.length = l
  | [] => rfl
  | b :: l => by
    have h := val_lt l
    rw [List.length_cons, be]
    have e1 : valL (b :: l) / 256 ^ l.length = b.toNat := by
      rw [val_cons, Nat.mul_comm, Nat.mul_add_div (Nat.pow_pos (by decide)), Nat.div_eq_of_lt h, Nat.add_zero]
    have e2 : be (valL (b :: l)) l.length = be (valL l) l.length := by
      rw [← be_mod (valL (b :: l)), val_cons, Nat.mul_add_mod', be_mod]
    rw [e1, e2, be_val l]
    simp
theorem be_inj {n m k : Nat} (hn : n < 256 ^ k) (hm : m < 256 ^ k) (h : be n k = be m k) : n = m := by
  rw [← val_be_lt hn, ← val_be_lt hm, h]
theorem be_val' {l : List UInt8} {k : Nat} (h : l.length = k) : be (valL l) k = l := by subst h; exact be_val l
theorem be_of {l : List UInt8} {n k : Nat} (h : l.length = k) (hv : valL l = n) : be n k = l := by subst hv; exact be_val' h
theorem val_take_lt {l : List UInt8} {k : Nat} (n : Nat) (h : 256 ^ k ≤ n) : valL (l.take k) < n := by
  have h1 := val_lt (l.take k)
  have h2 : (l.take k).length ≤ k := List.length_take_le _ _
  exact Nat.lt_of_lt_of_le h1 (Nat.le_trans (Nat.pow_le_pow_right (by decide) h2) h)
theorem be_split (n : Nat) (j : Nat) : ∀ k, be n (j + k) = be (n / 256 ^ k) j ++ be n k
  | 0 => by simp [be]
  | k + 1 => by
    rw [show j + (k + 1) = (j + k) + 1 from rfl, be_snoc, be_split (n / 256) j k, be_snoc n k, Nat.div_div_eq_div_mul, Nat.pow_succ, Nat.mul_comm (256 ^ k), List.append_assoc]
end Go.Vm

namespace Go.Vm.Code
open Go Go.Vm Go.Proofs
set_option maxRecDepth 100000
set_option maxHeartbeats 4000000
set_option linter.unusedVariables false

@[ext] structure api_Key where
  A : Int
  B : Int
  deriving DecidableEq
@[ext] structure Arr4_Int where
  e0 : Int
  e1 : Int
  e2 : Int
  e3 : Int
  deriving DecidableEq
@[ext] structure sip_Hasher where
  made : Bool
  s : Arr4_Int
  last : Int
  count : Int
  deriving DecidableEq
@[ext] structure api_Addr where
  V6 : Bool
  Hi : Int
  Lo : Int
  deriving DecidableEq
@[ext] structure ipsix_Head where
  Class : Int
  Label : Int
  Next : Int
  Hop : Int
  Src : api_Addr
  Dst : api_Addr
  deriving DecidableEq
@[ext] structure octet_Reader where
  s : List UInt8
  made : Bool
  bad : Bool
  deriving DecidableEq
end Go.Vm.Code

namespace Go.Vm.Code
open Go Go.Vm Go.Proofs
set_option maxRecDepth 100000
set_option maxHeartbeats 4000000
set_option linter.unusedVariables false

/-! cloakroom/octet.Put -/
def octet_Put_s1 (n : Int) (k : Int) (t17 : Int) (b : List Int) : Option (Sum (Int × (List Int)) (List UInt8)) :=
  cond (decide (t17 < (k.toNat : Int)))
    (
    let t := wI .i64 (8 * (wI .i64 ((wI .i64 (k - 1)) - t17)))
    oreq (decide (0 ≤ t)) <|
    oreq (decide ((0 : Int) ≤ t17 ∧ t17 < (k.toNat : Int))) <|
    oreq (decide (t17.toNat < b.length)) <|
    let row := b.set t17.toNat (wI .u8 (n.fdiv (2 ^ (min t.toNat 64))))
    some (.inl (wI .i64 (t17 + 1), row)))
    (
    oreq (decide (k.toNat ≤ b.length)) <|
    some (.inr (iB (b.take k.toNat))))
def octet_PutF (n : Int) (k : Int) : Option (List UInt8) :=
  cond (decide (k < 1))
    (
    some ([]))
    (
    cond (decide (k > 8))
      (
      some ([]))
      (
      oreq (decide (0 ≤ k ∧ k ≤ k ∧ k < 2 ^ 63 ∧ (1 : Int) * k ≤ 2 ^ 48)) <|
      iter (fun st => octet_Put_s1 n k st.1 st.2) FUEL (0, List.replicate k.toNat 0)))
def post74 (x : List UInt8) (v : Value) (H : Hp) : Prop := v = .string ⟨⟨x⟩⟩
def r74 (g : Int → Int → Option (List UInt8)) : List SArg → Option SRes
  | [.v (.int .u64 a0_1), .v (.int .i64 a1_1)] => match g a0_1 a1_1 with | some x => some ⟨.string ⟨⟨x⟩⟩, [], []⟩ | none => none
  | _ => none
def s74 (g : Int → Int → Option (List UInt8)) : Summ := ⟨[.v, .v], r74 g⟩
theorem r74_eq {g : Int → Int → Option (List UInt8)} {a0_1 : Int} {a1_1 : Int} {x : List UInt8} (hx : g a0_1 a1_1 = some x) : (s74 g).run [.v (.int .u64 a0_1), .v (.int .i64 a1_1)] = some ⟨.string ⟨⟨x⟩⟩, [], []⟩ := by
  show r74 g [.v (.int .u64 a0_1), .v (.int .i64 a1_1)] = _
  simp only [r74, hx]
abbrev sums74 : List (Nat × Summ) := []
def head74_1 (n : Int) (k : Int) (t17 : Int) (b : List Int) : VM :=
  ⟨⟨74, 34, [(0, .int .u64 n), (1, .int .i64 k), (5, .slice (some ⟨0, 0, none⟩) k.toNat 1), (16, .int .i64 (k.toNat : Int)), (17, .int .i64 t17)], [.code k74_17, .inLoop k74_17, .inBlock 0, .code k74_22], [], false, none⟩, [], [(0, .row true (vI .u8 b))], 1⟩
theorem loop74_1 (hS : SumsOK Try.prog (aget (sums74))) (n : Int) (k : Int) (res : List UInt8) : ∀ fuel (st : Int × (List Int)) (o : List UInt8), iter (fun st => octet_Put_s1 n k st.1 st.2) fuel st = some o → (o = res) →
    Leads Try.prog 74 0 (head74_1 n k st.1 st.2) (fun v H _ => post74 res v H) := by
  intro fuel st o h hc
  refine iter_leads (head := fun st => head74_1 n k st.1 st.2) (C := fun o => (o = res)) ?_ fuel st o h hc
  clear h hc o st fuel
  intro st o h hc
  obtain ⟨t17, b⟩ := st
  replace h : octet_Put_s1 n k t17 b = some o := h
  show Leads Try.prog 74 0 (head74_1 n k t17 b) (fun v H _ => post74 res v H)
  unfold octet_Put_s1 at h
  refine ev_ok tab_ok hS true 3000 ?_
  conv => whnf
  refine br.h2 h ?_ ?_ ?_
  · rfl
  · clear h; intro hb h; conv => whnf
    replace h := oreq.elim h; have hb := h.1; replace h := h.2
    refine req.intro (by (first | rfl | (simp [vI, vB, vS, bI, oneC, addrBlk, cellsL, Value.cells] at *; omega) | (simp [vI, vB, vS, bI, oneC, addrBlk, cellsL, Value.cells] at *; done))) ?_
    conv => whnf
    refine pk_b2s ?_
    conv => whnf
    all_goals (cases h; cases hc)
    all_goals exact rfl
  clear h; intro hb h; conv => whnf
  let t : Int := wI .i64 (8 * (wI .i64 ((wI .i64 (k - 1)) - t17)))
  replace h := oreq.elim h; have hb := h.1; replace h := h.2
  first | (refine req.intro hb ?_; conv => whnf) | skip
  replace h := oreq.elim h; have hb := h.1; replace h := h.2
  first | (refine req.intro hb ?_; conv => whnf) | skip
  replace h := oreq.elim h; have hb := h.1; replace h := h.2
  refine st_I hb (by first | rfl | (rw [Nat.zero_add, Nat.mul_one]; done) | omega) ?_
  conv => whnf
  let row : List Int := b.set t17.toNat (wI .u8 (n.fdiv (2 ^ (min t.toNat 64))))
  cases h; simp only [Sum.elim_inl, Sum.elim_inr, head74_1] at hc
  refine Leads.re hc [(0, 0)] rfl ?_ ?_ <;> (repeat' first | exact trivial | refine ⟨⟨_, rfl, rfl⟩, ?_⟩ | refine ⟨⟨_, _, rfl, rfl, .rowF (vI_flat _ _) id⟩, ?_⟩ | refine ⟨⟨_, _, rfl, rfl, .rowF (vS_flat _) id⟩, ?_⟩ | refine ⟨⟨_, _, rfl, rfl, .rowF (vB_flat _) id⟩, ?_⟩ | refine ⟨⟨_, _, rfl, rfl, .cells rfl⟩, ?_⟩ | refine ⟨⟨_, _, rfl, rfl, .row rfl id⟩, ?_⟩ | refine ⟨⟨_, _, rfl, rfl, .cr rfl⟩, ?_⟩ | refine ⟨⟨_, _, rfl, rfl, .rc rfl⟩, ?_⟩ | refine ⟨⟨_, _, rfl, rfl, .marks⟩, ?_⟩ | refine ⟨⟨_, _, rfl, rfl, .siter _ _⟩, ?_⟩ | refine ⟨⟨_, _, rfl, rfl, .loop rfl rfl rfl rfl (by repeat' first | exact trivial | refine ⟨rfl, ?_⟩) rfl rfl rfl rfl⟩, ?_⟩)
theorem leads74 (hS : SumsOK Try.prog (aget (sums74))) (n : Int) (k : Int) (res : List UInt8) (h : octet_PutF n k = some res) :
    Leads Try.prog 74 0 ⟨⟨74, 34, [(0, .int .u64 n), (1, .int .i64 k)], [.code k74_26], [], false, none⟩, [], [], 0⟩ (fun v H _ => post74 res v H) := by
  unfold octet_PutF at h
  refine ev_ok tab_ok hS true 3000 ?_
  conv => whnf
  refine br.h h ?_ ?_ ?_
  · rfl
  · clear h; intro hb h; conv => whnf
    all_goals (cases h)
    all_goals exact rfl
  clear h; intro hb h; conv => whnf
  refine br.h h ?_ ?_ ?_
  · rfl
  · clear h; intro hb h; conv => whnf
    all_goals (cases h)
    all_goals exact rfl
  clear h; intro hb h; conv => whnf
  replace h := oreq.elim h; have hb := h.1; replace h := h.2
  first | (refine req.intro hb ?_; conv => whnf) | skip
  refine pk_mkI ?_
  conv => whnf
  have hl := loop74_1 hS _ _ res _ _ _ h rfl; simp only [head74_1] at hl
  refine Leads.re hl [(0, 0)] rfl ?_ ?_ <;> (repeat' first | exact trivial | refine ⟨⟨_, rfl, rfl⟩, ?_⟩ | refine ⟨⟨_, _, rfl, rfl, .rowF (vI_flat _ _) id⟩, ?_⟩ | refine ⟨⟨_, _, rfl, rfl, .rowF (vS_flat _) id⟩, ?_⟩ | refine ⟨⟨_, _, rfl, rfl, .rowF (vB_flat _) id⟩, ?_⟩ | refine ⟨⟨_, _, rfl, rfl, .cells rfl⟩, ?_⟩ | refine ⟨⟨_, _, rfl, rfl, .row rfl id⟩, ?_⟩ | refine ⟨⟨_, _, rfl, rfl, .cr rfl⟩, ?_⟩ | refine ⟨⟨_, _, rfl, rfl, .rc rfl⟩, ?_⟩ | refine ⟨⟨_, _, rfl, rfl, .marks⟩, ?_⟩ | refine ⟨⟨_, _, rfl, rfl, .siter _ _⟩, ?_⟩ | refine ⟨⟨_, _, rfl, rfl, .loop rfl rfl rfl rfl (by repeat' first | exact trivial | refine ⟨rfl, ?_⟩) rfl rfl rfl rfl⟩, ?_⟩)
theorem ok74 (hS : SumsOK Try.prog (aget (sums74))) : SumOK Try.prog 74 (s74 (octet_PutF)) := by
  refine SumOK.of_leads tab_ok (fun ar r ha hr => ?_) ⟨Try.f74, rfl, by decide, rfl⟩
  simp only [s74] at ha hr
  unfold r74 at hr
  split at hr <;> try (cases hr; done)
  split at hr <;> cases hr
  rename_i x h
  refine ⟨_, rfl, (leads74 hS _ _ x h).mono fun v H t hp => ?_⟩
  cases hp
  exact Res.val rfl trivial
def octet_Put : Int → Int → Option (List UInt8) := octet_PutF
theorem lift74 : SumOK Try.prog 74 (s74 octet_Put) := ok74 (SumsOK.of_tab trivial)
end Go.Vm.Code

namespace Go.Vm.Code
open Go Go.Vm Go.Proofs
set_option maxRecDepth 100000
set_option maxHeartbeats 4000000
set_option linter.unusedVariables false

/-! cloakroom/octet.Get -/
def octet_Get_s1 (t1 : List UInt8) (n : Int) (t37 : Int) : Option (Sum (Int × Int) (Int × Bool)) :=
  cond (decide (t37 < (t1.length : Int)))
    (
    oreq (decide ((0 : Int) ≤ t37 ∧ t37 < (t1.length : Int))) <|
    ((bI t1)[t37.toNat]?).bind fun (e : Int) =>
    let t2 := iorI .u64 (wI .u64 (n * 2 ^ 8)) (wI .u64 e)
    some (.inl (t2, wI .i64 (t37 + 1))))
    (
    some (.inr ((n, true))))
def octet_GetF (s : List UInt8) (ata1 : Int) (k : Int) : Option (Int × Bool) :=
  cond (decide (k < 1))
    (
    some ((0, false)))
    (
    cond (decide (k > 8))
      (
      some ((0, false)))
      (
      cond (decide (ata1 < 0))
        (
        some ((0, false)))
        (
        let t := decide ((wI .i64 ((s.length : Int) - k)) < ata1)
        cond (t)
          (
          some ((0, false)))
          (
          oreq (decide ((0 : Int) ≤ (wI .i64 (ata1 + k)) ∧ (wI .i64 (ata1 + k)) ≤ (s.length : Int) ∧ (0 : Int) ≤ ata1 ∧ ata1 ≤ ((wI .i64 (ata1 + k)).toNat : Int))) <|
          let t1 := (s.drop ata1.toNat).take ((wI .i64 (ata1 + k)).toNat - ata1.toNat)
          iter (fun st => octet_Get_s1 t1 st.1 st.2) FUEL (0, 0)))))
def post73 (x : Int × Bool) (v : Value) (H : Hp) : Prop := v = .tuple ⟨[.int .u64 x.1, .bool x.2]⟩
def r73 (g : (List UInt8) → Int → Int → Option (Int × Bool)) : List SArg → Option SRes
  | [.v (.string ⟨⟨a0_1⟩⟩), .v (.int .i64 a1_1), .v (.int .i64 a2_1)] => match g a0_1 a1_1 a2_1 with | some x => some ⟨.tuple ⟨[.int .u64 x.1, .bool x.2]⟩, [], []⟩ | none => none
  | _ => none
def s73 (g : (List UInt8) → Int → Int → Option (Int × Bool)) : Summ := ⟨[.v, .v, .v], r73 g⟩
theorem r73_eq {g : (List UInt8) → Int → Int → Option (Int × Bool)} {a0_1 : List UInt8} {a1_1 : Int} {a2_1 : Int} {x : Int × Bool} (hx : g a0_1 a1_1 a2_1 = some x) : (s73 g).run [.v (.string ⟨⟨a0_1⟩⟩), .v (.int .i64 a1_1), .v (.int .i64 a2_1)] = some ⟨.tuple ⟨[.int .u64 x.1, .bool x.2]⟩, [], []⟩ := by
  show r73 g [.v (.string ⟨⟨a0_1⟩⟩), .v (.int .i64 a1_1), .v (.int .i64 a2_1)] = _
  simp only [r73, hx]
abbrev sums73 : List (Nat × Summ) := []
def head73_1 (t1 : List UInt8) (n : Int) (t37 : Int) : VM :=
  ⟨⟨73, 48, [(8, .int .u64 n), (35, .slice (some ⟨0, 0, none⟩) t1.length 1), (36, .int .i64 (t1.length : Int)), (37, .int .i64 t37)], [.code k73_17, .inLoop k73_17, .inBlock 0, .code k73_22], [], false, none⟩, [], [(0, .row true (vI .u8 (bI t1)))], 1⟩
theorem loop73_1 (hS : SumsOK Try.prog (aget (sums73))) (t1 : List UInt8) (res : Int × Bool) : ∀ fuel (st : Int × Int) (o : Int × Bool), iter (fun st => octet_Get_s1 t1 st.1 st.2) fuel st = some o → (o = res) →
    Leads Try.prog 73 0 (head73_1 t1 st.1 st.2) (fun v H _ => post73 res v H) := by
  intro fuel st o h hc
  refine iter_leads (head := fun st => head73_1 t1 st.1 st.2) (C := fun o => (o = res)) ?_ fuel st o h hc
  clear h hc o st fuel
  intro st o h hc
  obtain ⟨n, t37⟩ := st
  replace h : octet_Get_s1 t1 n t37 = some o := h
  show Leads Try.prog 73 0 (head73_1 t1 n t37) (fun v H _ => post73 res v H)
  unfold octet_Get_s1 at h
  refine ev_ok tab_ok hS true 3000 ?_
  conv => whnf
  refine br.h2 h ?_ ?_ ?_
  · rfl
  · clear h; intro hb h; conv => whnf
    all_goals (cases h; cases hc)
    all_goals exact rfl
  clear h; intro hb h; conv => whnf
  replace h := oreq.elim h; have hb := h.1; replace h := h.2
  first | (refine req.intro hb ?_; conv => whnf) | skip
  obtain ⟨e, hy, h2⟩ := obind.elim h; clear h; have h := h2; clear h2
  refine rd.I hy (by first | rfl | (rw [Nat.zero_add, Nat.mul_one]; done) | omega) ?_
  conv => whnf
  let t2 : Int := iorI .u64 (wI .u64 (n * 2 ^ 8)) (wI .u64 e)
  cases h; simp only [Sum.elim_inl, Sum.elim_inr, head73_1] at hc
  refine Leads.re hc [(0, 0)] rfl ?_ ?_ <;> (repeat' first | exact trivial | refine ⟨⟨_, rfl, rfl⟩, ?_⟩ | refine ⟨⟨_, _, rfl, rfl, .rowF (vI_flat _ _) id⟩, ?_⟩ | refine ⟨⟨_, _, rfl, rfl, .rowF (vS_flat _) id⟩, ?_⟩ | refine ⟨⟨_, _, rfl, rfl, .rowF (vB_flat _) id⟩, ?_⟩ | refine ⟨⟨_, _, rfl, rfl, .cells rfl⟩, ?_⟩ | refine ⟨⟨_, _, rfl, rfl, .row rfl id⟩, ?_⟩ | refine ⟨⟨_, _, rfl, rfl, .cr rfl⟩, ?_⟩ | refine ⟨⟨_, _, rfl, rfl, .rc rfl⟩, ?_⟩ | refine ⟨⟨_, _, rfl, rfl, .marks⟩, ?_⟩ | refine ⟨⟨_, _, rfl, rfl, .siter _ _⟩, ?_⟩ | refine ⟨⟨_, _, rfl, rfl, .loop rfl rfl rfl rfl (by repeat' first | exact trivial | refine ⟨rfl, ?_⟩) rfl rfl rfl rfl⟩, ?_⟩)
theorem leads73 (hS : SumsOK Try.prog (aget (sums73))) (s : List UInt8) (ata1 : Int) (k : Int) (res : Int × Bool) (h : octet_GetF s ata1 k = some res) :
    Leads Try.prog 73 0 ⟨⟨73, 48, [(0, .string ⟨⟨s⟩⟩), (1, .int .i64 ata1), (2, .int .i64 k)], [.code k73_26], [], false, none⟩, [], [], 0⟩ (fun v H _ => post73 res v H) := by
  unfold octet_GetF at h
  refine ev_ok tab_ok hS true 3000 ?_
  conv => whnf
  refine br.h h ?_ ?_ ?_
  · rfl
  · clear h; intro hb h; conv => whnf
    all_goals (cases h)
    all_goals exact rfl
  clear h; intro hb h; conv => whnf
  refine br.h h ?_ ?_ ?_
  · rfl
  · clear h; intro hb h; conv => whnf
    all_goals (cases h)
    all_goals exact rfl
  clear h; intro hb h; conv => whnf
  refine br.h h ?_ ?_ ?_
  · rfl
  · clear h; intro hb h; conv => whnf
    all_goals (cases h)
    all_goals exact rfl
  clear h; intro hb h; conv => whnf
  let t : Bool := decide ((wI .i64 ((s.length : Int) - k)) < ata1)
  refine br.h h ?_ ?_ ?_
  · rfl
  · clear h; intro hb h; conv => whnf
    all_goals (cases h)
    all_goals exact rfl
  clear h; intro hb h; conv => whnf
  replace h := oreq.elim h; have hb := h.1; replace h := h.2
  first | (refine req.intro hb ?_; conv => whnf) | skip
  let t1 : List UInt8 := (s.drop ata1.toNat).take ((wI .i64 (ata1 + k)).toNat - ata1.toNat)
  refine pk_s2b ?_
  conv => whnf
  have hl := loop73_1 hS _ res _ _ _ h rfl; simp only [head73_1] at hl
  refine Leads.re hl [(0, 0)] rfl ?_ ?_ <;> (repeat' first | exact trivial | refine ⟨⟨_, rfl, rfl⟩, ?_⟩ | refine ⟨⟨_, _, rfl, rfl, .rowF (vI_flat _ _) id⟩, ?_⟩ | refine ⟨⟨_, _, rfl, rfl, .rowF (vS_flat _) id⟩, ?_⟩ | refine ⟨⟨_, _, rfl, rfl, .rowF (vB_flat _) id⟩, ?_⟩ | refine ⟨⟨_, _, rfl, rfl, .cells rfl⟩, ?_⟩ | refine ⟨⟨_, _, rfl, rfl, .row rfl id⟩, ?_⟩ | refine ⟨⟨_, _, rfl, rfl, .cr rfl⟩, ?_⟩ | refine ⟨⟨_, _, rfl, rfl, .rc rfl⟩, ?_⟩ | refine ⟨⟨_, _, rfl, rfl, .marks⟩, ?_⟩ | refine ⟨⟨_, _, rfl, rfl, .siter _ _⟩, ?_⟩ | refine ⟨⟨_, _, rfl, rfl, .loop rfl rfl rfl rfl (by repeat' first | exact trivial | refine ⟨rfl, ?_⟩) rfl rfl rfl rfl⟩, ?_⟩)
theorem ok73 (hS : SumsOK Try.prog (aget (sums73))) : SumOK Try.prog 73 (s73 (octet_GetF)) := by
  refine SumOK.of_leads tab_ok (fun ar r ha hr => ?_) ⟨Try.f73, rfl, by decide, rfl⟩
  simp only [s73] at ha hr
  unfold r73 at hr
  split at hr <;> try (cases hr; done)
  split at hr <;> cases hr
  rename_i x h
  refine ⟨_, rfl, (leads73 hS _ _ _ x h).mono fun v H t hp => ?_⟩
  cases hp
  exact Res.val rfl trivial
def octet_Get : (List UInt8) → Int → Int → Option (Int × Bool) := octet_GetF
theorem lift73 : SumOK Try.prog 73 (s73 octet_Get) := ok73 (SumsOK.of_tab trivial)
end Go.Vm.Code

namespace Go.Vm.Code
open Go Go.Vm Go.Proofs
set_option maxRecDepth 100000
set_option maxHeartbeats 4000000
set_option linter.unusedVariables false

/-! cloakroom/cloakroomref02.Put -/
def R02_Put_s1 (k : Int) (n1 : Int) (s : List UInt8) (i : Int) : Option (Sum (Int × (List UInt8) × Int) (List UInt8)) :=
  cond (decide (i < k))
    (
    cond (decide (k ≤ 8))
      (
      let t := [UInt8.ofNat (wI .u8 (n1.tmod 256)).toNat]
      oreq (decide (t.length + s.length < 2 ^ 63)) <|
      some (.inl (wI .u64 (n1.tdiv 256), t ++ s, wI .i64 (i + 1))))
      (
      some (.inr (s))))
    (
    some (.inr (s)))
def R02_PutF (n : Int) (k : Int) : Option (List UInt8) :=
  iter (fun st => R02_Put_s1 k st.1 st.2.1 st.2.2) FUEL (n, [], 0)
def post76 (x : List UInt8) (v : Value) (H : Hp) : Prop := v = .string ⟨⟨x⟩⟩
def r76 (g : Int → Int → Option (List UInt8)) : List SArg → Option SRes
  | [.v (.int .u64 a0_1), .v (.int .i64 a1_1)] => match g a0_1 a1_1 with | some x => some ⟨.string ⟨⟨x⟩⟩, [], []⟩ | none => none
  | _ => none
def s76 (g : Int → Int → Option (List UInt8)) : Summ := ⟨[.v, .v], r76 g⟩
theorem r76_eq {g : Int → Int → Option (List UInt8)} {a0_1 : Int} {a1_1 : Int} {x : List UInt8} (hx : g a0_1 a1_1 = some x) : (s76 g).run [.v (.int .u64 a0_1), .v (.int .i64 a1_1)] = some ⟨.string ⟨⟨x⟩⟩, [], []⟩ := by
  show r76 g [.v (.int .u64 a0_1), .v (.int .i64 a1_1)] = _
  simp only [r76, hx]
abbrev sums76 : List (Nat × Summ) := []
def head76_1 (k : Int) (n1 : Int) (s : List UInt8) (i : Int) : VM :=
  ⟨⟨76, 26, [(0, .int .u64 n1), (1, .int .i64 k), (5, .string ⟨⟨s⟩⟩), (6, .int .i64 i)], [.code k76_12, .inLoop k76_12, .inBlock 0, .code k76_17], [], false, none⟩, [], [], 0⟩
theorem loop76_1 (hS : SumsOK Try.prog (aget (sums76))) (k : Int) (res : List UInt8) : ∀ fuel (st : Int × (List UInt8) × Int) (o : List UInt8), iter (fun st => R02_Put_s1 k st.1 st.2.1 st.2.2) fuel st = some o → (o = res) →
    Leads Try.prog 76 0 (head76_1 k st.1 st.2.1 st.2.2) (fun v H _ => post76 res v H) := by
  intro fuel st o h hc
  refine iter_leads (head := fun st => head76_1 k st.1 st.2.1 st.2.2) (C := fun o => (o = res)) ?_ fuel st o h hc
  clear h hc o st fuel
  intro st o h hc
  obtain ⟨n1, s, i⟩ := st
  replace h : R02_Put_s1 k n1 s i = some o := h
  show Leads Try.prog 76 0 (head76_1 k n1 s i) (fun v H _ => post76 res v H)
  unfold R02_Put_s1 at h
  refine ev_ok tab_ok hS true 3000 ?_
  conv => whnf
  refine br.h2 h ?_ ?_ ?_
  · rfl
  · clear h; intro hb h; conv => whnf
    all_goals (cases h; cases hc)
    all_goals exact rfl
  clear h; intro hb h; conv => whnf
  refine br.h2 h ?_ ?_ ?_
  · rfl
  · clear h; intro hb h; conv => whnf
    all_goals (cases h; cases hc)
    all_goals exact rfl
  clear h; intro hb h; conv => whnf
  refine pk_b2sL rfl ?_
  conv => whnf
  let t : List UInt8 := [UInt8.ofNat (wI .u8 (n1.tmod 256)).toNat]
  replace h := oreq.elim h; have hb := h.1; replace h := h.2
  first | (refine req.intro hb ?_; conv => whnf) | skip
  cases h; simp only [Sum.elim_inl, Sum.elim_inr, head76_1] at hc
  refine Leads.re hc [] rfl ?_ ?_ <;> (repeat' first | exact trivial | refine ⟨⟨_, rfl, rfl⟩, ?_⟩ | refine ⟨⟨_, _, rfl, rfl, .rowF (vI_flat _ _) id⟩, ?_⟩ | refine ⟨⟨_, _, rfl, rfl, .rowF (vS_flat _) id⟩, ?_⟩ | refine ⟨⟨_, _, rfl, rfl, .rowF (vB_flat _) id⟩, ?_⟩ | refine ⟨⟨_, _, rfl, rfl, .cells rfl⟩, ?_⟩ | refine ⟨⟨_, _, rfl, rfl, .row rfl id⟩, ?_⟩ | refine ⟨⟨_, _, rfl, rfl, .cr rfl⟩, ?_⟩ | refine ⟨⟨_, _, rfl, rfl, .rc rfl⟩, ?_⟩ | refine ⟨⟨_, _, rfl, rfl, .marks⟩, ?_⟩ | refine ⟨⟨_, _, rfl, rfl, .siter _ _⟩, ?_⟩ | refine ⟨⟨_, _, rfl, rfl, .loop rfl rfl rfl rfl (by repeat' first | exact trivial | refine ⟨rfl, ?_⟩) rfl rfl rfl rfl⟩, ?_⟩)
theorem leads76 (hS : SumsOK Try.prog (aget (sums76))) (n : Int) (k : Int) (res : List UInt8) (h : R02_PutF n k = some res) :
    Leads Try.prog 76 0 ⟨⟨76, 26, [(0, .int .u64 n), (1, .int .i64 k)], [.code k76_20], [], false, none⟩, [], [], 0⟩ (fun v H _ => post76 res v H) := by
  unfold R02_PutF at h
  refine ev_ok tab_ok hS true 3000 ?_
  conv => whnf
  have hl := loop76_1 hS _ res _ _ _ h rfl; simp only [head76_1] at hl
  refine Leads.re hl [] rfl ?_ ?_ <;> (repeat' first | exact trivial | refine ⟨⟨_, rfl, rfl⟩, ?_⟩ | refine ⟨⟨_, _, rfl, rfl, .rowF (vI_flat _ _) id⟩, ?_⟩ | refine ⟨⟨_, _, rfl, rfl, .rowF (vS_flat _) id⟩, ?_⟩ | refine ⟨⟨_, _, rfl, rfl, .rowF (vB_flat _) id⟩, ?_⟩ | refine ⟨⟨_, _, rfl, rfl, .cells rfl⟩, ?_⟩ | refine ⟨⟨_, _, rfl, rfl, .row rfl id⟩, ?_⟩ | refine ⟨⟨_, _, rfl, rfl, .cr rfl⟩, ?_⟩ | refine ⟨⟨_, _, rfl, rfl, .rc rfl⟩, ?_⟩ | refine ⟨⟨_, _, rfl, rfl, .marks⟩, ?_⟩ | refine ⟨⟨_, _, rfl, rfl, .siter _ _⟩, ?_⟩ | refine ⟨⟨_, _, rfl, rfl, .loop rfl rfl rfl rfl (by repeat' first | exact trivial | refine ⟨rfl, ?_⟩) rfl rfl rfl rfl⟩, ?_⟩)
theorem ok76 (hS : SumsOK Try.prog (aget (sums76))) : SumOK Try.prog 76 (s76 (R02_PutF)) := by
  refine SumOK.of_leads tab_ok (fun ar r ha hr => ?_) ⟨Try.f76, rfl, by decide, rfl⟩
  simp only [s76] at ha hr
  unfold r76 at hr
  split at hr <;> try (cases hr; done)
  split at hr <;> cases hr
  rename_i x h
  refine ⟨_, rfl, (leads76 hS _ _ x h).mono fun v H t hp => ?_⟩
  cases hp
  exact Res.val rfl trivial
def R02_Put : Int → Int → Option (List UInt8) := R02_PutF
theorem lift76 : SumOK Try.prog 76 (s76 R02_Put) := ok76 (SumsOK.of_tab trivial)
end Go.Vm.Code

namespace Go.Vm.Code
open Go Go.Vm Go.Proofs
set_option maxRecDepth 100000
set_option maxHeartbeats 4000000
set_option linter.unusedVariables false

/-! cloakroom/cloakroomref02.Get -/
def R02_Get_s1 (s : List UInt8) (ata1 : Int) (k : Int) (n : Int) (i : Int) : Option (Sum (Int × Int) (Int × Bool)) :=
  cond (decide (i < k))
    (
    oreq (decide (0 ≤ (wI .i64 (ata1 + i)))) <|
    (s[(wI .i64 (ata1 + i)).toNat]?).bind fun (b : UInt8) =>
    let t1 := wI .u64 ((wI .u64 (n * 256)) + (wI .u64 (b.toNat : Int)))
    some (.inl (t1, wI .i64 (i + 1))))
    (
    some (.inr ((n, true))))
def R02_GetF (s : List UInt8) (ata1 : Int) (k : Int) : Option (Int × Bool) :=
  cond (decide (k < 1))
    (
    some ((0, false)))
    (
    cond (decide (k > 8))
      (
      some ((0, false)))
      (
      cond (decide (ata1 < 0))
        (
        some ((0, false)))
        (
        cond (decide (ata1 > (s.length : Int)))
          (
          some ((0, false)))
          (
          let t := decide (k > (wI .i64 ((s.length : Int) - ata1)))
          cond (t)
            (
            some ((0, false)))
            (
            iter (fun st => R02_Get_s1 s ata1 k st.1 st.2) FUEL (0, 0))))))
def post75 (x : Int × Bool) (v : Value) (H : Hp) : Prop := v = .tuple ⟨[.int .u64 x.1, .bool x.2]⟩
def r75 (g : (List UInt8) → Int → Int → Option (Int × Bool)) : List SArg → Option SRes
  | [.v (.string ⟨⟨a0_1⟩⟩), .v (.int .i64 a1_1), .v (.int .i64 a2_1)] => match g a0_1 a1_1 a2_1 with | some x => some ⟨.tuple ⟨[.int .u64 x.1, .bool x.2]⟩, [], []⟩ | none => none
  | _ => none
def s75 (g : (List UInt8) → Int → Int → Option (Int × Bool)) : Summ := ⟨[.v, .v, .v], r75 g⟩
theorem r75_eq {g : (List UInt8) → Int → Int → Option (Int × Bool)} {a0_1 : List UInt8} {a1_1 : Int} {a2_1 : Int} {x : Int × Bool} (hx : g a0_1 a1_1 a2_1 = some x) : (s75 g).run [.v (.string ⟨⟨a0_1⟩⟩), .v (.int .i64 a1_1), .v (.int .i64 a2_1)] = some ⟨.tuple ⟨[.int .u64 x.1, .bool x.2]⟩, [], []⟩ := by
  show r75 g [.v (.string ⟨⟨a0_1⟩⟩), .v (.int .i64 a1_1), .v (.int .i64 a2_1)] = _
  simp only [r75, hx]
abbrev sums75 : List (Nat × Summ) := []
def head75_1 (s : List UInt8) (ata1 : Int) (k : Int) (n : Int) (i : Int) : VM :=
  ⟨⟨75, 49, [(0, .string ⟨⟨s⟩⟩), (1, .int .i64 ata1), (2, .int .i64 k), (8, .int .u64 n), (9, .int .i64 i)], [.code k75_15, .inLoop k75_15, .inBlock 0, .code k75_20], [], false, none⟩, [], [], 0⟩
theorem loop75_1 (hS : SumsOK Try.prog (aget (sums75))) (s : List UInt8) (ata1 : Int) (k : Int) (res : Int × Bool) : ∀ fuel (st : Int × Int) (o : Int × Bool), iter (fun st => R02_Get_s1 s ata1 k st.1 st.2) fuel st = some o → (o = res) →
    Leads Try.prog 75 0 (head75_1 s ata1 k st.1 st.2) (fun v H _ => post75 res v H) := by
  intro fuel st o h hc
  refine iter_leads (head := fun st => head75_1 s ata1 k st.1 st.2) (C := fun o => (o = res)) ?_ fuel st o h hc
  clear h hc o st fuel
  intro st o h hc
  obtain ⟨n, i⟩ := st
  replace h : R02_Get_s1 s ata1 k n i = some o := h
  show Leads Try.prog 75 0 (head75_1 s ata1 k n i) (fun v H _ => post75 res v H)
  unfold R02_Get_s1 at h
  refine ev_ok tab_ok hS true 3000 ?_
  conv => whnf
  refine br.h2 h ?_ ?_ ?_
  · rfl
  · clear h; intro hb h; conv => whnf
    all_goals (cases h; cases hc)
    all_goals exact rfl
  clear h; intro hb h; conv => whnf
  replace h := oreq.elim h; have hb := h.1; replace h := h.2
  first | (refine req.intro hb ?_; conv => whnf) | skip
  obtain ⟨b, hy, h2⟩ := obind.elim h; clear h; have h := h2; clear h2
  refine rdS.intro hy ?_
  conv => whnf
  let t1 : Int := wI .u64 ((wI .u64 (n * 256)) + (wI .u64 (b.toNat : Int)))
  cases h; simp only [Sum.elim_inl, Sum.elim_inr, head75_1] at hc
  refine Leads.re hc [] rfl ?_ ?_ <;> (repeat' first | exact trivial | refine ⟨⟨_, rfl, rfl⟩, ?_⟩ | refine ⟨⟨_, _, rfl, rfl, .rowF (vI_flat _ _) id⟩, ?_⟩ | refine ⟨⟨_, _, rfl, rfl, .rowF (vS_flat _) id⟩, ?_⟩ | refine ⟨⟨_, _, rfl, rfl, .rowF (vB_flat _) id⟩, ?_⟩ | refine ⟨⟨_, _, rfl, rfl, .cells rfl⟩, ?_⟩ | refine ⟨⟨_, _, rfl, rfl, .row rfl id⟩, ?_⟩ | refine ⟨⟨_, _, rfl, rfl, .cr rfl⟩, ?_⟩ | refine ⟨⟨_, _, rfl, rfl, .rc rfl⟩, ?_⟩ | refine ⟨⟨_, _, rfl, rfl, .marks⟩, ?_⟩ | refine ⟨⟨_, _, rfl, rfl, .siter _ _⟩, ?_⟩ | refine ⟨⟨_, _, rfl, rfl, .loop rfl rfl rfl rfl (by repeat' first | exact trivial | refine ⟨rfl, ?_⟩) rfl rfl rfl rfl⟩, ?_⟩)
theorem leads75 (hS : SumsOK Try.prog (aget (sums75))) (s : List UInt8) (ata1 : Int) (k : Int) (res : Int × Bool) (h : R02_GetF s ata1 k = some res) :
    Leads Try.prog 75 0 ⟨⟨75, 49, [(0, .string ⟨⟨s⟩⟩), (1, .int .i64 ata1), (2, .int .i64 k)], [.code k75_24], [], false, none⟩, [], [], 0⟩ (fun v H _ => post75 res v H) := by
  unfold R02_GetF at h
  refine ev_ok tab_ok hS true 3000 ?_
  conv => whnf
  refine br.h h ?_ ?_ ?_
  · rfl
  · clear h; intro hb h; conv => whnf
    all_goals (cases h)
    all_goals exact rfl
  clear h; intro hb h; conv => whnf
  refine br.h h ?_ ?_ ?_
  · rfl
  · clear h; intro hb h; conv => whnf
    all_goals (cases h)
    all_goals exact rfl
  clear h; intro hb h; conv => whnf
  refine br.h h ?_ ?_ ?_
  · rfl
  · clear h; intro hb h; conv => whnf
    all_goals (cases h)
    all_goals exact rfl
  clear h; intro hb h; conv => whnf
  refine br.h h ?_ ?_ ?_
  · rfl
  · clear h; intro hb h; conv => whnf
    all_goals (cases h)
    all_goals exact rfl
  clear h; intro hb h; conv => whnf
  let t : Bool := decide (k > (wI .i64 ((s.length : Int) - ata1)))
  refine br.h h ?_ ?_ ?_
  · rfl
  · clear h; intro hb h; conv => whnf
    all_goals (cases h)
    all_goals exact rfl
  clear h; intro hb h; conv => whnf
  have hl := loop75_1 hS _ _ _ res _ _ _ h rfl; simp only [head75_1] at hl
  refine Leads.re hl [] rfl ?_ ?_ <;> (repeat' first | exact trivial | refine ⟨⟨_, rfl, rfl⟩, ?_⟩ | refine ⟨⟨_, _, rfl, rfl, .rowF (vI_flat _ _) id⟩, ?_⟩ | refine ⟨⟨_, _, rfl, rfl, .rowF (vS_flat _) id⟩, ?_⟩ | refine ⟨⟨_, _, rfl, rfl, .rowF (vB_flat _) id⟩, ?_⟩ | refine ⟨⟨_, _, rfl, rfl, .cells rfl⟩, ?_⟩ | refine ⟨⟨_, _, rfl, rfl, .row rfl id⟩, ?_⟩ | refine ⟨⟨_, _, rfl, rfl, .cr rfl⟩, ?_⟩ | refine ⟨⟨_, _, rfl, rfl, .rc rfl⟩, ?_⟩ | refine ⟨⟨_, _, rfl, rfl, .marks⟩, ?_⟩ | refine ⟨⟨_, _, rfl, rfl, .siter _ _⟩, ?_⟩ | refine ⟨⟨_, _, rfl, rfl, .loop rfl rfl rfl rfl (by repeat' first | exact trivial | refine ⟨rfl, ?_⟩) rfl rfl rfl rfl⟩, ?_⟩)
theorem ok75 (hS : SumsOK Try.prog (aget (sums75))) : SumOK Try.prog 75 (s75 (R02_GetF)) := by
  refine SumOK.of_leads tab_ok (fun ar r ha hr => ?_) ⟨Try.f75, rfl, by decide, rfl⟩
  simp only [s75] at ha hr
  unfold r75 at hr
  split at hr <;> try (cases hr; done)
  split at hr <;> cases hr
  rename_i x h
  refine ⟨_, rfl, (leads75 hS _ _ _ x h).mono fun v H t hp => ?_⟩
  cases hp
  exact Res.val rfl trivial
def R02_Get : (List UInt8) → Int → Int → Option (Int × Bool) := R02_GetF
theorem lift75 : SumOK Try.prog 75 (s75 R02_Get) := ok75 (SumsOK.of_tab trivial)
end Go.Vm.Code

namespace Go.Vm.Code
open Go Go.Vm Go.Proofs
set_option maxRecDepth 100000
set_option maxHeartbeats 4000000
set_option linter.unusedVariables false

/-! cloakroom/cloakroomref02.Must -/
def R02_MustF (R02_Get : (List UInt8) → Int → Int → Option (Int × Bool)) (s : List UInt8) (ata1 : Int) (k : Int) : Option Int :=
  (R02_Get s ata1 k).bind fun xg =>
  some (wI .i64 xg.1)
def post87 (x : Int) (v : Value) (H : Hp) : Prop := v = .int .i64 x
def r87 (g : (List UInt8) → Int → Int → Option Int) : List SArg → Option SRes
  | [.v (.string ⟨⟨a0_1⟩⟩), .v (.int .i64 a1_1), .v (.int .i64 a2_1)] => match g a0_1 a1_1 a2_1 with | some x => some ⟨.int .i64 x, [], []⟩ | none => none
  | _ => none
def s87 (g : (List UInt8) → Int → Int → Option Int) : Summ := ⟨[.v, .v, .v], r87 g⟩
theorem r87_eq {g : (List UInt8) → Int → Int → Option Int} {a0_1 : List UInt8} {a1_1 : Int} {a2_1 : Int} {x : Int} (hx : g a0_1 a1_1 a2_1 = some x) : (s87 g).run [.v (.string ⟨⟨a0_1⟩⟩), .v (.int .i64 a1_1), .v (.int .i64 a2_1)] = some ⟨.int .i64 x, [], []⟩ := by
  show r87 g [.v (.string ⟨⟨a0_1⟩⟩), .v (.int .i64 a1_1), .v (.int .i64 a2_1)] = _
  simp only [r87, hx]
abbrev sums87 (R02_Get : (List UInt8) → Int → Int → Option (Int × Bool)) : List (Nat × Summ) := [(75, s75 R02_Get)]
theorem leads87 (R02_Get : (List UInt8) → Int → Int → Option (Int × Bool)) (hS : SumsOK Try.prog (aget (sums87 R02_Get))) (s : List UInt8) (ata1 : Int) (k : Int) (res : Int) (h : R02_MustF R02_Get s ata1 k = some res) :
    Leads Try.prog 87 0 ⟨⟨87, 18, [(0, .string ⟨⟨s⟩⟩), (1, .int .i64 ata1), (2, .int .i64 k)], [.code k87_5], [], false, none⟩, [], [], 0⟩ (fun v H _ => post87 res v H) := by
  unfold R02_MustF at h
  refine ev_ok tab_ok hS true 3000 ?_
  conv => whnf
  obtain ⟨xg, hy, h2⟩ := obind.elim h; clear h; have h := h2; clear h2
  refine sumK.introF [] (sumRun_of (aqs := [.v (.string ⟨⟨s⟩⟩), .v (.int .i64 ata1), .v (.int .i64 k)]) (ra_cons rfl (ra_cons rfl (ra_cons rfl ra_nil))) (r75_eq hy) rfl rfl rfl rfl) ?_
  conv => whnf
  all_goals (cases h)
  all_goals exact rfl
theorem ok87 (R02_Get : (List UInt8) → Int → Int → Option (Int × Bool)) (hS : SumsOK Try.prog (aget (sums87 R02_Get))) : SumOK Try.prog 87 (s87 (R02_MustF R02_Get)) := by
  refine SumOK.of_leads tab_ok (fun ar r ha hr => ?_) ⟨Try.f87, rfl, by decide, rfl⟩
  simp only [s87] at ha hr
  unfold r87 at hr
  split at hr <;> try (cases hr; done)
  split at hr <;> cases hr
  rename_i x h
  refine ⟨_, rfl, (leads87 R02_Get hS _ _ _ x h).mono fun v H t hp => ?_⟩
  cases hp
  exact Res.val rfl trivial
def R02_Must : (List UInt8) → Int → Int → Option Int := R02_MustF R02_Get
theorem lift87 : SumOK Try.prog 87 (s87 R02_Must) := ok87 R02_Get (SumsOK.of_tab ⟨lift75, trivial⟩)
end Go.Vm.Code

/- Chapter 2's numbers and bytes: what the lifted functions compute. -/
namespace Go.Vm.Code
open Go Go.Vm

def putS (n k : Int) : List UInt8 := if 1 ≤ k ∧ k ≤ 8 then be n.toNat k.toNat else []
theorem octet_Put_eq {n k : Int} (h0 : 0 ≤ n) : octet_Put n k = some (putS n k) := by
  unfold octet_Put octet_PutF putS
  by_cases h1 : k < 1
  · rw [cond_p h1, if_neg (by omega)]
  by_cases h2 : k > 8
  · rw [cond_n h1, cond_p h2, if_neg (by omega)]
  rw [cond_n h1, cond_n h2, oreq_p (by omega), if_pos (by omega)]
  obtain ⟨m, rfl⟩ := Int.eq_ofNat_of_zero_le h0
  obtain ⟨j, rfl⟩ := Int.eq_ofNat_of_zero_le (show 0 ≤ k by omega)
  have key := iter_eq (step := fun (st : Int × List Int) => octet_Put_s1 (m : Int) (j : Int) st.1 st.2) (fun st => iB (st.2.take st.1.toNat) ++ be m (j - st.1.toNat)) (fun st => 0 ≤ st.1 ∧ st.1 ≤ j ∧ st.2.length = j) (fun st => (j - st.1).toNat) ?_ FUEL (0, List.replicate (j : Int).toNat 0) ⟨by simp, by simp, by simp⟩ (by rw [FUEL_eq]; simp only; omega)
  · rw [key]; simp [iB]
  rintro ⟨p, b⟩ ⟨g1, g2, g3⟩
  simp only at g1 g2 g3 ⊢
  obtain ⟨i, rfl⟩ := Int.eq_ofNat_of_zero_le g1
  unfold octet_Put_s1
  by_cases hp : i < j
  · refine .inr ⟨(((i + 1 : Nat) : Int), b.set i ((m / 256 ^ (j - 1 - i) % 256 : Nat) : Int)), ?_, ⟨by simp only; omega, by simp only; omega, by simp [g3]⟩, by simp only; omega, ?_⟩
    · simp (disch := omega) only [wI64, oreq_p, cond_p, Int.toNat_natCast]
      have e1 : min (8 * ((j : Int) - 1 - i)).toNat 64 = 8 * (j - 1 - i) := by omega
      have e0 : (2 : Int) ^ (8 * (j - 1 - i)) = ((256 ^ (j - 1 - i) : Nat) : Int) := by rw [show (256 : Nat) = 2 ^ 8 from rfl, ← Nat.pow_mul]; push_cast; rfl
      rw [e1, fdivP, wU8m, e0]
      rfl
    · simp only [Int.toNat_natCast]
      have e2 : j - i = (j - (i + 1)) + 1 := by omega
      have e3 : j - (i + 1) = j - 1 - i := by omega
      have e4 : (b.set i ((m / 256 ^ (j - 1 - i) % 256 : Nat) : Int)).take (i + 1) = b.take i ++ [((m / 256 ^ (j - 1 - i) % 256 : Nat) : Int)] := by
        rw [List.take_succ_eq_append_getElem (by simp; omega), List.take_set_of_le (Nat.le_refl _), List.getElem_set_self]
      rw [e2, e4, be, e3]
      simp only [iB, List.map_append, List.map_cons, List.map_nil, List.append_assoc, List.cons_append, List.nil_append, Int.toNat_natCast]
      congr 2
      apply UInt8.toNat_inj.1
      simp
  · refine .inl ?_
    obtain rfl : i = j := by omega
    simp (disch := omega) only [cond_n, oreq_p, Int.toNat_natCast]
    simp [be]
theorem R02_Put_eq {n k : Int} (h0 : 0 ≤ n) (h1 : n < 2 ^ 64) : R02_Put n k = some (putS n k) := by
  unfold R02_Put R02_PutF putS
  obtain ⟨m, rfl⟩ := Int.eq_ofNat_of_zero_le h0
  by_cases hk : 1 ≤ k ∧ k ≤ 8
  · rw [if_pos hk]
    obtain ⟨j, rfl⟩ := Int.eq_ofNat_of_zero_le (show 0 ≤ k by omega)
    have key := iter_eq (step := fun st => R02_Put_s1 (j : Int) st.1 st.2.1 st.2.2) (fun st => be st.1.toNat (j - st.2.2.toNat) ++ st.2.1) (fun st => 0 ≤ st.1 ∧ st.1 < 2 ^ 64 ∧ 0 ≤ st.2.2 ∧ st.2.2 ≤ j ∧ st.2.1.length < 2 ^ 20 + st.2.2.toNat) (fun st => (j - st.2.2).toNat) ?_ FUEL ((m : Int), [], 0) ⟨by simp, by simp only; omega, by simp, by simp, by simp⟩ (by rw [FUEL_eq]; simp only; omega)
    · rw [key]; simp
    rintro ⟨n, s, p⟩ ⟨g1, g2, g3, g4, g5⟩
    simp only at g1 g2 g3 g4 g5 ⊢
    obtain ⟨i, rfl⟩ := Int.eq_ofNat_of_zero_le g3
    obtain ⟨x, rfl⟩ := Int.eq_ofNat_of_zero_le g1
    unfold R02_Put_s1
    by_cases hp : i < j
    · refine .inr ⟨(((x / 256 : Nat) : Int), UInt8.ofNat x :: s, ((i + 1 : Nat) : Int)), ?_, ⟨by simp only; omega, by simp only; omega, by simp only; omega, by simp only; omega, by simp at g5 ⊢; omega⟩, by simp only; omega, ?_⟩
      · have e1 : (x : Int).tmod 256 = ((x % 256 : Nat) : Int) := by rw [Int.tmod_eq_emod_of_nonneg (by omega)]; rfl
        have e2 : (x : Int).tdiv 256 = ((x / 256 : Nat) : Int) := by rw [Int.tdiv_eq_ediv_of_nonneg (by omega)]; rfl
        rw [cond_p (by omega), cond_p (by omega), e1, e2, wU8 (by omega) (by omega)]
        simp only [List.length_cons, List.length_nil]
        rw [oreq_p (by omega), wU64 (by omega) (by omega), wI64 (by omega) (by omega), Int.toNat_natCast]
        have e3 : UInt8.ofNat (x % 256) = UInt8.ofNat x := by apply UInt8.toNat_inj.1; simp
        rw [e3]; rfl
      · simp only [Int.toNat_natCast]
        have e2 : j - i = (j - (i + 1)) + 1 := by omega
        rw [e2, be_snoc]; simp
    · refine .inl ?_
      obtain rfl : i = j := by omega
      rw [cond_n (by omega)]
      simp [be]
  · rw [if_neg hk]
    show iter _ (18446744073709551615 + 1) _ = _
    rw [iter]
    have : R02_Put_s1 k (m : Int) [] 0 = some (.inr []) := by
      unfold R02_Put_s1
      by_cases h2 : 0 < k
      · rw [cond_p h2, cond_n (by omega)]
      · rw [cond_n h2]
    simp only [this]

/-- a number read -/
def getS (s : List UInt8) (p k : Int) : Int × Bool := if 1 ≤ k ∧ k ≤ 8 ∧ 0 ≤ p ∧ p + k ≤ s.length then (((valL ((s.drop p.toNat).take k.toNat) : Nat) : Int), true) else (0, false)
theorem pow_step {v i : Nat} (h : v < 256 ^ i) (hi : i ≤ 7) : v < 2 ^ 56 := Nat.lt_of_lt_of_le h (by
  have : (256 : Nat) ^ i ≤ 256 ^ 7 := Nat.pow_le_pow_right (by decide) hi
  simpa using this)
theorem octet_Get_eq {s : List UInt8} {p k : Int} (hs : s.length < 2 ^ 61) : octet_Get s p k = some (getS s p k) := by
  unfold octet_Get octet_GetF getS
  by_cases h1 : k < 1
  · rw [cond_p h1, if_neg (by omega)]
  by_cases h2 : k > 8
  · rw [cond_n h1, cond_p h2, if_neg (by omega)]
  by_cases h3 : p < 0
  · rw [cond_n h1, cond_n h2, cond_p h3, if_neg (by omega)]
  rw [cond_n h1, cond_n h2, cond_n h3, wI64 (n := (s.length : Int) - k) (by omega) (by omega)]
  by_cases h4 : (s.length : Int) - k < p
  · simp only []
    rw [cond_p h4, if_neg (by omega)]
  simp only []
  rw [cond_n h4, wI64 (n := p + k) (by omega) (by omega), oreq_p (by omega), if_pos (by omega)]
  obtain ⟨q, rfl⟩ := Int.eq_ofNat_of_zero_le (show 0 ≤ p by omega)
  obtain ⟨j, rfl⟩ := Int.eq_ofNat_of_zero_le (show 0 ≤ k by omega)
  have e : ((q : Int) + j).toNat - (q : Int).toNat = j := by omega
  rw [e]
  simp only [Int.toNat_natCast]
  generalize ht : (s.drop q).take j = t
  have hl : t.length = j := by rw [← ht]; simp; omega
  have key := iter_eq (step := fun st => octet_Get_s1 t st.1 st.2) (fun st => (((st.1.toNat * 256 ^ (j - st.2.toNat) + valL (t.drop st.2.toNat) : Nat) : Int), true)) (fun st => 0 ≤ st.1 ∧ 0 ≤ st.2 ∧ st.2 ≤ j ∧ st.1.toNat < 256 ^ st.2.toNat) (fun st => (j - st.2).toNat) ?_ FUEL (0, 0) ⟨by simp, by simp, by simp, by simp⟩ (by rw [FUEL_eq]; simp only; omega)
  · rw [key]; simp
  rintro ⟨n, x⟩ ⟨g1, g2, g3, g4⟩
  simp only at g1 g2 g3 g4 ⊢
  obtain ⟨i, rfl⟩ := Int.eq_ofNat_of_zero_le g2
  obtain ⟨v, rfl⟩ := Int.eq_ofNat_of_zero_le g1
  simp only [Int.toNat_natCast] at g4 ⊢
  unfold octet_Get_s1
  by_cases hp : i < j
  · have hlt : i < t.length := by omega
    have hb := t[i].toNat_lt
    have hv := pow_step g4 (by omega)
    refine .inr ⟨(((v * 256 + t[i].toNat : Nat) : Int), ((i + 1 : Nat) : Int)), ?_, ⟨by simp only; omega, by simp only; omega, by simp only; omega, ?_⟩, by simp only; omega, ?_⟩
    · rw [cond_p (by omega), oreq_p (by omega)]
      have e1 : (bI t)[(i : Int).toNat]? = some (t[i].toNat : Int) := by simp [bI, hlt]
      rw [e1, Option.bind_some]
      have e2 : iorI .u64 (wI .u64 ((v : Int) * 2 ^ 8)) (wI .u64 (t[i].toNat : Int)) = ((v * 256 + t[i].toNat : Nat) : Int) := by
        rw [wU64 (by omega) (by omega), wU64 (by omega) (by omega), iorU64_low 8 (by omega) (by omega) (by omega) (by omega) (by omega)]; omega
      simp only [e2]
      rw [wI64 (by omega) (by omega)]; rfl
    · simp only [Int.toNat_natCast]
      rw [Nat.pow_succ]; omega
    · simp only [Int.toNat_natCast]
      rw [List.drop_eq_getElem_cons hlt, val_cons]
      have e3 : (t.drop (i + 1)).length = j - (i + 1) := by simp; omega
      have e4 : j - i = (j - (i + 1)) + 1 := by omega
      rw [e3, e4, Nat.pow_succ, Nat.add_mul, Nat.mul_assoc, Nat.mul_comm 256, Nat.add_assoc]
  · refine .inl ?_
    obtain rfl : i = j := by omega
    rw [cond_n (by omega)]
    simp [← hl]
theorem R02_Get_eq {s : List UInt8} {p k : Int} (hs : s.length < 2 ^ 61) : R02_Get s p k = some (getS s p k) := by
  unfold R02_Get R02_GetF getS
  by_cases h1 : k < 1
  · rw [cond_p h1, if_neg (by omega)]
  by_cases h2 : k > 8
  · rw [cond_n h1, cond_p h2, if_neg (by omega)]
  by_cases h3 : p < 0
  · rw [cond_n h1, cond_n h2, cond_p h3, if_neg (by omega)]
  by_cases h5 : p > s.length
  · rw [cond_n h1, cond_n h2, cond_n h3, cond_p h5, if_neg (by omega)]
  rw [cond_n h1, cond_n h2, cond_n h3, cond_n h5, wI64 (n := (s.length : Int) - p) (by omega) (by omega)]
  by_cases h4 : k > (s.length : Int) - p
  · simp only []
    rw [cond_p h4, if_neg (by omega)]
  simp only []
  rw [cond_n h4, if_pos (by omega)]
  obtain ⟨q, rfl⟩ := Int.eq_ofNat_of_zero_le (show 0 ≤ p by omega)
  obtain ⟨j, rfl⟩ := Int.eq_ofNat_of_zero_le (show 0 ≤ k by omega)
  simp only [Int.toNat_natCast]
  generalize ht : (s.drop q).take j = t
  have hl : t.length = j := by rw [← ht]; simp; omega
  have key := iter_eq (step := fun st => R02_Get_s1 s (q : Int) (j : Int) st.1 st.2) (fun st => (((st.1.toNat * 256 ^ (j - st.2.toNat) + valL (t.drop st.2.toNat) : Nat) : Int), true)) (fun st => 0 ≤ st.1 ∧ 0 ≤ st.2 ∧ st.2 ≤ j ∧ st.1.toNat < 256 ^ st.2.toNat) (fun st => (j - st.2).toNat) ?_ FUEL (0, 0) ⟨by simp, by simp, by simp, by simp⟩ (by rw [FUEL_eq]; simp only; omega)
  · rw [key]; simp
  rintro ⟨n, x⟩ ⟨g1, g2, g3, g4⟩
  simp only at g1 g2 g3 g4 ⊢
  obtain ⟨i, rfl⟩ := Int.eq_ofNat_of_zero_le g2
  obtain ⟨v, rfl⟩ := Int.eq_ofNat_of_zero_le g1
  simp only [Int.toNat_natCast] at g4 ⊢
  unfold R02_Get_s1
  by_cases hp : i < j
  · have hlt : i < t.length := by omega
    have hb := t[i].toNat_lt
    have hv := pow_step g4 (by omega)
    refine .inr ⟨(((v * 256 + t[i].toNat : Nat) : Int), ((i + 1 : Nat) : Int)), ?_, ⟨by simp only; omega, by simp only; omega, by simp only; omega, ?_⟩, by simp only; omega, ?_⟩
    · rw [cond_p (by omega), wI64 (n := (q : Int) + i) (by omega) (by omega), oreq_p (by omega)]
      have e0 : ((q : Int) + i).toNat = q + i := by omega
      have e1 : s[q + i]? = some t[i] := by
        subst ht
        rw [List.getElem?_eq_getElem (by omega)]
        simp
      rw [e0, e1, Option.bind_some]
      have e2 : wI .u64 ((wI .u64 ((v : Int) * 256)) + (wI .u64 (t[i].toNat : Int))) = ((v * 256 + t[i].toNat : Nat) : Int) := by
        rw [wU64 (n := (v : Int) * 256) (by omega) (by omega), wU64 (n := (t[i].toNat : Int)) (by omega) (by omega), wU64 (by omega) (by omega)]; omega
      simp only [e2]
      rw [wI64 (by omega) (by omega)]; rfl
    · simp only [Int.toNat_natCast]
      rw [Nat.pow_succ]; omega
    · simp only [Int.toNat_natCast]
      rw [List.drop_eq_getElem_cons hlt, val_cons]
      have e3 : (t.drop (i + 1)).length = j - (i + 1) := by simp; omega
      have e4 : j - i = (j - (i + 1)) + 1 := by omega
      rw [e3, e4, Nat.pow_succ, Nat.add_mul, Nat.mul_assoc, Nat.mul_comm 256, Nat.add_assoc]
  · refine .inl ?_
    obtain rfl : i = j := by omega
    rw [cond_n (by omega)]
    simp [← hl]
theorem R02_Must_eq {s : List UInt8} {p k : Int} (hs : s.length < 2 ^ 61) : R02_Must s p k = some (wI .i64 (getS s p k).1) := by
  unfold R02_Must R02_MustF
  rw [R02_Get_eq hs]; rfl
end Go.Vm.Code

namespace Go.Vm.Code
open Go Go.Vm Go.Proofs
set_option maxRecDepth 100000
set_option maxHeartbeats 4000000
set_option linter.unusedVariables false

/-! (*cloakroom/octet.Reader).Bad -/
def octet_Reader_BadF (ra0 : octet_Reader) : Option (Bool × octet_Reader) :=
  cond (!ra0.made)
    (
    some ((true, ra0)))
    (
    some ((ra0.bad, ra0)))
def post85 (x : Bool × octet_Reader) (v : Value) (H : Hp) : Prop := v = .bool x.1 ∧ aget H 0 = some (.cells [.string ⟨⟨x.2.s⟩⟩, .bool x.2.made, .bool x.2.bad])
def r85 (g : octet_Reader → Option (Bool × octet_Reader)) : List SArg → Option SRes
  | [.pt [.string ⟨⟨a0_1⟩⟩, .bool a0_2, .bool a0_3]] => match g (octet_Reader.mk a0_1 a0_2 a0_3) with | some x => some ⟨.bool x.1, [], [[.string ⟨⟨x.2.s⟩⟩, .bool x.2.made, .bool x.2.bad]]⟩ | none => none
  | _ => none
def s85 (g : octet_Reader → Option (Bool × octet_Reader)) : Summ := ⟨[.pt 3], r85 g⟩
theorem r85_eq {g : octet_Reader → Option (Bool × octet_Reader)} {a0_1 : List UInt8} {a0_2 : Bool} {a0_3 : Bool} {x : Bool × octet_Reader} (hx : g (octet_Reader.mk a0_1 a0_2 a0_3) = some x) : (s85 g).run [.pt [.string ⟨⟨a0_1⟩⟩, .bool a0_2, .bool a0_3]] = some ⟨.bool x.1, [], [[.string ⟨⟨x.2.s⟩⟩, .bool x.2.made, .bool x.2.bad]]⟩ := by
  show r85 g [.pt [.string ⟨⟨a0_1⟩⟩, .bool a0_2, .bool a0_3]] = _
  simp only [r85, hx]
abbrev sums85 : List (Nat × Summ) := []
theorem leads85 (hS : SumsOK Try.prog (aget (sums85))) (ra0 : octet_Reader) (res : Bool × octet_Reader) (h : octet_Reader_BadF ra0 = some res) :
    Leads Try.prog 85 1 ⟨⟨85, 18, [(0, .pointer (some ⟨0, 0, none⟩))], [.code k85_3], [], false, none⟩, [], [(0, .cells [.string ⟨⟨ra0.s⟩⟩, .bool ra0.made, .bool ra0.bad])], 1⟩ (fun v H _ => post85 res v H) := by
  unfold octet_Reader_BadF at h
  refine ev_ok tab_ok hS true 3000 ?_
  conv => whnf
  refine br.h h ?_ ?_ ?_
  · rfl
  · clear h; intro hb h; conv => whnf
    all_goals (cases h)
    all_goals exact ⟨rfl, rfl⟩
  clear h; intro hb h; conv => whnf
  all_goals (cases h)
  all_goals exact ⟨rfl, rfl⟩
theorem ok85 (hS : SumsOK Try.prog (aget (sums85))) : SumOK Try.prog 85 (s85 (octet_Reader_BadF)) := by
  refine SumOK.of_leads tab_ok (fun ar r ha hr => ?_) ⟨Try.f85, rfl, by decide, rfl⟩
  simp only [s85] at ha hr
  unfold r85 at hr
  split at hr <;> try (cases hr; done)
  split at hr <;> cases hr
  rename_i x h
  refine ⟨_, rfl, (leads85 hS _ x h).mono fun v H t hp => ?_⟩
  obtain ⟨rfl, h0⟩ := hp
  exact Res.val rfl ⟨h0, rfl, trivial⟩
def octet_Reader_Bad : octet_Reader → Option (Bool × octet_Reader) := octet_Reader_BadF
theorem lift85 : SumOK Try.prog 85 (s85 octet_Reader_Bad) := ok85 (SumsOK.of_tab trivial)
end Go.Vm.Code

namespace Go.Vm.Code
open Go Go.Vm Go.Proofs
set_option maxRecDepth 100000
set_option maxHeartbeats 4000000
set_option linter.unusedVariables false

/-! (*cloakroom/octet.Reader).Text -/
def octet_Reader_TextF (octet_Reader_Bad : octet_Reader → Option (Bool × octet_Reader)) (ra0 : octet_Reader) (n : Int) : Option ((List UInt8) × octet_Reader) :=
  (octet_Reader_Bad ra0).bind fun b =>
  cond (b.1)
    (
    some (([], b.2)))
    (
    cond (decide (n < 0))
      (
      some (([], octet_Reader.mk b.2.s b.2.made true)))
      (
      cond (decide (n > (b.2.s.length : Int)))
        (
        some (([], octet_Reader.mk b.2.s b.2.made true)))
        (
        oreq (decide ((0 : Int) ≤ n ∧ n ≤ (b.2.s.length : Int))) <|
        oreq (decide ((0 : Int) ≤ n ∧ n ≤ (b.2.s.length : Int))) <|
        let t := (b.2.s.drop n.toNat).take (b.2.s.length - n.toNat)
        some ((b.2.s.take n.toNat, octet_Reader.mk t b.2.made b.2.bad)))))
def post84 (x : (List UInt8) × octet_Reader) (v : Value) (H : Hp) : Prop := v = .string ⟨⟨x.1⟩⟩ ∧ aget H 0 = some (.cells [.string ⟨⟨x.2.s⟩⟩, .bool x.2.made, .bool x.2.bad])
def r84 (g : octet_Reader → Int → Option ((List UInt8) × octet_Reader)) : List SArg → Option SRes
  | [.pt [.string ⟨⟨a0_1⟩⟩, .bool a0_2, .bool a0_3], .v (.int .i64 a1_1)] => match g (octet_Reader.mk a0_1 a0_2 a0_3) a1_1 with | some x => some ⟨.string ⟨⟨x.1⟩⟩, [], [[.string ⟨⟨x.2.s⟩⟩, .bool x.2.made, .bool x.2.bad]]⟩ | none => none
  | _ => none
def s84 (g : octet_Reader → Int → Option ((List UInt8) × octet_Reader)) : Summ := ⟨[.pt 3, .v], r84 g⟩
theorem r84_eq {g : octet_Reader → Int → Option ((List UInt8) × octet_Reader)} {a0_1 : List UInt8} {a0_2 : Bool} {a0_3 : Bool} {a1_1 : Int} {x : (List UInt8) × octet_Reader} (hx : g (octet_Reader.mk a0_1 a0_2 a0_3) a1_1 = some x) : (s84 g).run [.pt [.string ⟨⟨a0_1⟩⟩, .bool a0_2, .bool a0_3], .v (.int .i64 a1_1)] = some ⟨.string ⟨⟨x.1⟩⟩, [], [[.string ⟨⟨x.2.s⟩⟩, .bool x.2.made, .bool x.2.bad]]⟩ := by
  show r84 g [.pt [.string ⟨⟨a0_1⟩⟩, .bool a0_2, .bool a0_3], .v (.int .i64 a1_1)] = _
  simp only [r84, hx]
abbrev sums84 (octet_Reader_Bad : octet_Reader → Option (Bool × octet_Reader)) : List (Nat × Summ) := [(85, s85 octet_Reader_Bad)]
theorem leads84 (octet_Reader_Bad : octet_Reader → Option (Bool × octet_Reader)) (hS : SumsOK Try.prog (aget (sums84 octet_Reader_Bad))) (ra0 : octet_Reader) (n : Int) (res : (List UInt8) × octet_Reader) (h : octet_Reader_TextF octet_Reader_Bad ra0 n = some res) :
    Leads Try.prog 84 1 ⟨⟨84, 38, [(0, .pointer (some ⟨0, 0, none⟩)), (1, .int .i64 n)], [.code k84_21], [], false, none⟩, [], [(0, .cells [.string ⟨⟨ra0.s⟩⟩, .bool ra0.made, .bool ra0.bad])], 1⟩ (fun v H _ => post84 res v H) := by
  unfold octet_Reader_TextF at h
  refine ev_ok tab_ok hS true 3000 ?_
  conv => whnf
  obtain ⟨b, hy, h2⟩ := obind.elim h; clear h; have h := h2; clear h2
  refine sumK.introF [0] (sumRun_of (aqs := [.pt [.string ⟨⟨ra0.s⟩⟩, .bool ra0.made, .bool ra0.bad]]) (ra_cons rfl ra_nil) (r85_eq hy) rfl rfl rfl rfl) ?_
  conv => whnf
  refine br.h h ?_ ?_ ?_
  · rfl
  · clear h; intro hb h; conv => whnf
    all_goals (cases h)
    all_goals exact ⟨rfl, rfl⟩
  clear h; intro hb h; conv => whnf
  refine br.h h ?_ ?_ ?_
  · rfl
  · clear h; intro hb h; conv => whnf
    all_goals (cases h)
    all_goals exact ⟨rfl, rfl⟩
  clear h; intro hb h; conv => whnf
  refine br.h h ?_ ?_ ?_
  · rfl
  · clear h; intro hb h; conv => whnf
    all_goals (cases h)
    all_goals exact ⟨rfl, rfl⟩
  clear h; intro hb h; conv => whnf
  replace h := oreq.elim h; have hb := h.1; replace h := h.2
  first | (refine req.intro hb ?_; conv => whnf) | skip
  replace h := oreq.elim h; have hb := h.1; replace h := h.2
  first | (refine req.intro hb ?_; conv => whnf) | skip
  let t : List UInt8 := (b.2.s.drop n.toNat).take (b.2.s.length - n.toNat)
  all_goals (cases h)
  all_goals exact ⟨rfl, rfl⟩
theorem ok84 (octet_Reader_Bad : octet_Reader → Option (Bool × octet_Reader)) (hS : SumsOK Try.prog (aget (sums84 octet_Reader_Bad))) : SumOK Try.prog 84 (s84 (octet_Reader_TextF octet_Reader_Bad)) := by
  refine SumOK.of_leads tab_ok (fun ar r ha hr => ?_) ⟨Try.f84, rfl, by decide, rfl⟩
  simp only [s84] at ha hr
  unfold r84 at hr
  split at hr <;> try (cases hr; done)
  split at hr <;> cases hr
  rename_i x h
  refine ⟨_, rfl, (leads84 octet_Reader_Bad hS _ _ x h).mono fun v H t hp => ?_⟩
  obtain ⟨rfl, h0⟩ := hp
  exact Res.val rfl ⟨h0, rfl, trivial⟩
def octet_Reader_Text : octet_Reader → Int → Option ((List UInt8) × octet_Reader) := octet_Reader_TextF octet_Reader_Bad
theorem lift84 : SumOK Try.prog 84 (s84 octet_Reader_Text) := ok84 octet_Reader_Bad (SumsOK.of_tab ⟨lift85, trivial⟩)
end Go.Vm.Code

namespace Go.Vm.Code
open Go Go.Vm Go.Proofs
set_option maxRecDepth 100000
set_option maxHeartbeats 4000000
set_option linter.unusedVariables false

/-! (*cloakroom/octet.Reader).Num -/
def octet_Reader_NumF (octet_Get : (List UInt8) → Int → Int → Option (Int × Bool)) (octet_Reader_Text : octet_Reader → Int → Option ((List UInt8) × octet_Reader)) (ra0 : octet_Reader) (k : Int) : Option (Int × octet_Reader) :=
  cond (decide (k < 1))
    (
    (octet_Reader_Text ra0 (-1)).bind fun t =>
    (octet_Get t.1 0 (-1)).bind fun xg =>
    some ((wI .i64 xg.1, t.2)))
    (
    cond (decide (k > 7))
      (
      (octet_Reader_Text ra0 (-1)).bind fun t1 =>
      (octet_Get t1.1 0 (-1)).bind fun xg1 =>
      some ((wI .i64 xg1.1, t1.2)))
      (
      (octet_Reader_Text ra0 k).bind fun t2 =>
      (octet_Get t2.1 0 k).bind fun xg2 =>
      some ((wI .i64 xg2.1, t2.2))))
def post83 (x : Int × octet_Reader) (v : Value) (H : Hp) : Prop := v = .int .i64 x.1 ∧ aget H 0 = some (.cells [.string ⟨⟨x.2.s⟩⟩, .bool x.2.made, .bool x.2.bad])
def r83 (g : octet_Reader → Int → Option (Int × octet_Reader)) : List SArg → Option SRes
  | [.pt [.string ⟨⟨a0_1⟩⟩, .bool a0_2, .bool a0_3], .v (.int .i64 a1_1)] => match g (octet_Reader.mk a0_1 a0_2 a0_3) a1_1 with | some x => some ⟨.int .i64 x.1, [], [[.string ⟨⟨x.2.s⟩⟩, .bool x.2.made, .bool x.2.bad]]⟩ | none => none
  | _ => none
def s83 (g : octet_Reader → Int → Option (Int × octet_Reader)) : Summ := ⟨[.pt 3, .v], r83 g⟩
theorem r83_eq {g : octet_Reader → Int → Option (Int × octet_Reader)} {a0_1 : List UInt8} {a0_2 : Bool} {a0_3 : Bool} {a1_1 : Int} {x : Int × octet_Reader} (hx : g (octet_Reader.mk a0_1 a0_2 a0_3) a1_1 = some x) : (s83 g).run [.pt [.string ⟨⟨a0_1⟩⟩, .bool a0_2, .bool a0_3], .v (.int .i64 a1_1)] = some ⟨.int .i64 x.1, [], [[.string ⟨⟨x.2.s⟩⟩, .bool x.2.made, .bool x.2.bad]]⟩ := by
  show r83 g [.pt [.string ⟨⟨a0_1⟩⟩, .bool a0_2, .bool a0_3], .v (.int .i64 a1_1)] = _
  simp only [r83, hx]
abbrev sums83 (octet_Get : (List UInt8) → Int → Int → Option (Int × Bool)) (octet_Reader_Text : octet_Reader → Int → Option ((List UInt8) × octet_Reader)) : List (Nat × Summ) := [(73, s73 octet_Get), (84, s84 octet_Reader_Text)]
theorem leads83 (octet_Get : (List UInt8) → Int → Int → Option (Int × Bool)) (octet_Reader_Text : octet_Reader → Int → Option ((List UInt8) × octet_Reader)) (hS : SumsOK Try.prog (aget (sums83 octet_Get octet_Reader_Text))) (ra0 : octet_Reader) (k : Int) (res : Int × octet_Reader) (h : octet_Reader_NumF octet_Get octet_Reader_Text ra0 k = some res) :
    Leads Try.prog 83 1 ⟨⟨83, 23, [(0, .pointer (some ⟨0, 0, none⟩)), (1, .int .i64 k)], [.code k83_10], [], false, none⟩, [], [(0, .cells [.string ⟨⟨ra0.s⟩⟩, .bool ra0.made, .bool ra0.bad])], 1⟩ (fun v H _ => post83 res v H) := by
  unfold octet_Reader_NumF at h
  refine ev_ok tab_ok hS true 3000 ?_
  conv => whnf
  refine br.h h ?_ ?_ ?_
  · rfl
  · clear h; intro hb h; conv => whnf
    obtain ⟨t, hy, h2⟩ := obind.elim h; clear h; have h := h2; clear h2
    refine sumK.introF [0] (sumRun_of (aqs := [.pt [.string ⟨⟨ra0.s⟩⟩, .bool ra0.made, .bool ra0.bad], .v (.int .i64 (-1))]) (ra_cons rfl (ra_cons rfl ra_nil)) (r84_eq hy) rfl rfl rfl rfl) ?_
    conv => whnf
    obtain ⟨xg, hy, h2⟩ := obind.elim h; clear h; have h := h2; clear h2
    refine sumK.introF [] (sumRun_of (aqs := [.v (.string ⟨⟨t.1⟩⟩), .v (.int .i64 0), .v (.int .i64 (-1))]) (ra_cons rfl (ra_cons rfl (ra_cons rfl ra_nil))) (r73_eq hy) rfl rfl rfl rfl) ?_
    conv => whnf
    all_goals (cases h)
    all_goals exact ⟨rfl, rfl⟩
  clear h; intro hb h; conv => whnf
  refine br.h h ?_ ?_ ?_
  · rfl
  · clear h; intro hb h; conv => whnf
    obtain ⟨t1, hy, h2⟩ := obind.elim h; clear h; have h := h2; clear h2
    refine sumK.introF [0] (sumRun_of (aqs := [.pt [.string ⟨⟨ra0.s⟩⟩, .bool ra0.made, .bool ra0.bad], .v (.int .i64 (-1))]) (ra_cons rfl (ra_cons rfl ra_nil)) (r84_eq hy) rfl rfl rfl rfl) ?_
    conv => whnf
    obtain ⟨xg1, hy, h2⟩ := obind.elim h; clear h; have h := h2; clear h2
    refine sumK.introF [] (sumRun_of (aqs := [.v (.string ⟨⟨t1.1⟩⟩), .v (.int .i64 0), .v (.int .i64 (-1))]) (ra_cons rfl (ra_cons rfl (ra_cons rfl ra_nil))) (r73_eq hy) rfl rfl rfl rfl) ?_
    conv => whnf
    all_goals (cases h)
    all_goals exact ⟨rfl, rfl⟩
  clear h; intro hb h; conv => whnf
  obtain ⟨t2, hy, h2⟩ := obind.elim h; clear h; have h := h2; clear h2
  refine sumK.introF [0] (sumRun_of (aqs := [.pt [.string ⟨⟨ra0.s⟩⟩, .bool ra0.made, .bool ra0.bad], .v (.int .i64 k)]) (ra_cons rfl (ra_cons rfl ra_nil)) (r84_eq hy) rfl rfl rfl rfl) ?_
  conv => whnf
  obtain ⟨xg2, hy, h2⟩ := obind.elim h; clear h; have h := h2; clear h2
  refine sumK.introF [] (sumRun_of (aqs := [.v (.string ⟨⟨t2.1⟩⟩), .v (.int .i64 0), .v (.int .i64 k)]) (ra_cons rfl (ra_cons rfl (ra_cons rfl ra_nil))) (r73_eq hy) rfl rfl rfl rfl) ?_
  conv => whnf
  all_goals (cases h)
  all_goals exact ⟨rfl, rfl⟩
theorem ok83 (octet_Get : (List UInt8) → Int → Int → Option (Int × Bool)) (octet_Reader_Text : octet_Reader → Int → Option ((List UInt8) × octet_Reader)) (hS : SumsOK Try.prog (aget (sums83 octet_Get octet_Reader_Text))) : SumOK Try.prog 83 (s83 (octet_Reader_NumF octet_Get octet_Reader_Text)) := by
  refine SumOK.of_leads tab_ok (fun ar r ha hr => ?_) ⟨Try.f83, rfl, by decide, rfl⟩
  simp only [s83] at ha hr
  unfold r83 at hr
  split at hr <;> try (cases hr; done)
  split at hr <;> cases hr
  rename_i x h
  refine ⟨_, rfl, (leads83 octet_Get octet_Reader_Text hS _ _ x h).mono fun v H t hp => ?_⟩
  obtain ⟨rfl, h0⟩ := hp
  exact Res.val rfl ⟨h0, rfl, trivial⟩
def octet_Reader_Num : octet_Reader → Int → Option (Int × octet_Reader) := octet_Reader_NumF octet_Get octet_Reader_Text
theorem lift83 : SumOK Try.prog 83 (s83 octet_Reader_Num) := ok83 octet_Get octet_Reader_Text (SumsOK.of_tab ⟨lift73, lift84, trivial⟩)
end Go.Vm.Code

namespace Go.Vm.Code
open Go Go.Vm Go.Proofs
set_option maxRecDepth 100000
set_option maxHeartbeats 4000000
set_option linter.unusedVariables false

/-! cloakroom/octet.New -/
def octet_NewF (s : List UInt8) : Option octet_Reader :=
  some (octet_Reader.mk s true false)
def post82 (x : octet_Reader) (v : Value) (H : Hp) : Prop := ∃ j, 0 ≤ j ∧ (aget H j = some (.row true [.string ⟨⟨x.s⟩⟩, .bool x.made, .bool x.bad]) ∨ aget H j = some (.cells [.string ⟨⟨x.s⟩⟩, .bool x.made, .bool x.bad])) ∧ v = .pointer (some ⟨j, 0, none⟩)
def r82 (g : (List UInt8) → Option octet_Reader) : List SArg → Option SRes
  | [.v (.string ⟨⟨a0_1⟩⟩)] => match g a0_1 with | some x => some ⟨.pointer (some ⟨0, 0, none⟩), [[.string ⟨⟨x.s⟩⟩, .bool x.made, .bool x.bad]], []⟩ | none => none
  | _ => none
def s82 (g : (List UInt8) → Option octet_Reader) : Summ := ⟨[.v], r82 g⟩
theorem r82_eq {g : (List UInt8) → Option octet_Reader} {a0_1 : List UInt8} {x : octet_Reader} (hx : g a0_1 = some x) : (s82 g).run [.v (.string ⟨⟨a0_1⟩⟩)] = some ⟨.pointer (some ⟨0, 0, none⟩), [[.string ⟨⟨x.s⟩⟩, .bool x.made, .bool x.bad]], []⟩ := by
  show r82 g [.v (.string ⟨⟨a0_1⟩⟩)] = _
  simp only [r82, hx]
abbrev sums82 : List (Nat × Summ) := []
theorem leads82 (hS : SumsOK Try.prog (aget (sums82))) (s : List UInt8) (res : octet_Reader) (h : octet_NewF s = some res) :
    Leads Try.prog 82 0 ⟨⟨82, 6, [(0, .string ⟨⟨s⟩⟩)], [.code k82_3], [], false, none⟩, [], [], 0⟩ (fun v H _ => post82 res v H) := by
  unfold octet_NewF at h
  refine ev_ok tab_ok hS true 3000 ?_
  conv => whnf
  all_goals (cases h)
  all_goals exact ⟨0, by omega, .inr rfl, rfl⟩
theorem ok82 (hS : SumsOK Try.prog (aget (sums82))) : SumOK Try.prog 82 (s82 (octet_NewF)) := by
  refine SumOK.of_leads tab_ok (fun ar r ha hr => ?_) ⟨Try.f82, rfl, by decide, rfl⟩
  simp only [s82] at ha hr
  unfold r82 at hr
  split at hr <;> try (cases hr; done)
  split at hr <;> cases hr
  rename_i x h
  refine ⟨_, rfl, (leads82 hS _ x h).mono fun v H t hp => ?_⟩
  obtain ⟨j, hj, hc, hp⟩ := hp
  cases hp
  exact Res.one j rfl hc trivial hj
def octet_New : (List UInt8) → Option octet_Reader := octet_NewF
theorem lift82 : SumOK Try.prog 82 (s82 octet_New) := ok82 (SumsOK.of_tab trivial)
end Go.Vm.Code

/- A reader of bytes, in plain words. -/
namespace Go.Vm.Code
open Go Go.Vm

/-- a reader behind k bytes more -/
def rdr (r : octet_Reader) (k : Int) : octet_Reader := if r.bad = true ∨ k < 0 ∨ k > r.s.length then ⟨r.s, true, true⟩ else ⟨r.s.drop k.toNat, true, false⟩
def rdt (r : octet_Reader) (k : Int) : List UInt8 := if r.bad = true ∨ k < 0 ∨ k > r.s.length then [] else r.s.take k.toNat
theorem rBad_eq {r : octet_Reader} (h : r.made = true) : octet_Reader_Bad r = some (r.bad, r) := by
  unfold octet_Reader_Bad octet_Reader_BadF
  rw [h]; rfl
theorem rText_eq {r : octet_Reader} {k : Int} (h : r.made = true) : octet_Reader_Text r k = some (rdt r k, rdr r k) := by
  unfold octet_Reader_Text octet_Reader_TextF rdt rdr
  rw [rBad_eq h, Option.bind_some]
  simp only []
  obtain ⟨s, m, b⟩ := r
  simp only at h ⊢
  subst h
  cases b with
  | true => simp
  | false =>
    rw [cond_false]
    by_cases h1 : k < 0
    · rw [cond_p h1, if_pos (by omega), if_pos (by omega)]
    rw [cond_n h1]
    by_cases h2 : k > s.length
    · rw [cond_p h2, if_pos (by omega), if_pos (by omega)]
    · have e : (s.drop k.toNat).take (s.length - k.toNat) = s.drop k.toNat := List.take_of_length_le (by simp)
      rw [cond_n h2, oreq_p (by omega), oreq_p (by omega), if_neg (by simp; omega), if_neg (by simp; omega), e]
theorem rdr_made (r : octet_Reader) (k : Int) : (rdr r k).made = true := by unfold rdr; split <;> rfl
theorem rdr_bad {r : octet_Reader} {k : Int} : (rdr r k).bad = false ↔ r.bad = false ∧ 0 ≤ k ∧ k ≤ r.s.length := by
  unfold rdr
  split
  · rename_i h
    simp only [Bool.true_eq_false, false_iff]
    intro ⟨a, b, c⟩
    rcases h with h | h | h
    · rw [a] at h; cases h
    · omega
    · omega
  · rename_i h
    simp only [true_iff]
    cases hb : r.bad
    · exact ⟨rfl, by omega, by omega⟩
    · exact absurd (.inl hb) h
theorem rdr_len {r : octet_Reader} {k : Int} (h : (rdr r k).bad = false) : ((rdr r k).s.length : Int) = r.s.length - k := by
  obtain ⟨a, b, c⟩ := rdr_bad.1 h
  unfold rdr
  rw [if_neg (by rw [a]; simp; omega)]
  simp; omega
theorem rdr_step {r r' : octet_Reader} {k : Int} (h : rdr r k = r') (hb : r'.bad = false) : r.bad = false ∧ (r'.s.length : Int) + k = r.s.length := by
  subst h
  have := rdr_len hb
  exact ⟨(rdr_bad.1 hb).1, by omega⟩
theorem rdr_ok {s : List UInt8} {k : Int} (h0 : 0 ≤ k) (h1 : k ≤ s.length) : rdr ⟨s, true, false⟩ k = ⟨s.drop k.toNat, true, false⟩ := by
  unfold rdr; rw [if_neg (by simp; omega)]
theorem rdt_ok {s : List UInt8} {k : Int} (h0 : 0 ≤ k) (h1 : k ≤ s.length) : rdt ⟨s, true, false⟩ k = s.take k.toNat := by
  unfold rdt; rw [if_neg (by simp; omega)]
theorem rdt_len (r : octet_Reader) (k : Int) : (rdt r k).length ≤ r.s.length := by
  unfold rdt; split
  · simp
  · rw [List.length_take]; omega
/-- a number read -/
def rdn (r : octet_Reader) (k : Int) : Int := (valL (rdt r (if k < 1 ∨ k > 7 then -1 else k)) : Nat)
theorem rNum_eq {r : octet_Reader} {k : Int} (h : r.made = true) (hl : r.s.length < 2 ^ 61) : octet_Reader_Num r k = some (rdn r k, rdr r (if k < 1 ∨ k > 7 then -1 else k)) := by
  unfold octet_Reader_Num octet_Reader_NumF rdn
  have bad : octet_Reader_Text r (-1) = some ([], rdr r (-1)) := by
    rw [rText_eq h]; unfold rdt; rw [if_pos (by omega)]
  have e0 : rdt r (-1) = [] := by unfold rdt; rw [if_pos (by omega)]
  by_cases h1 : k < 1
  · rw [cond_p h1, bad, Option.bind_some, octet_Get_eq (by simp), if_pos (by omega), Option.bind_some, e0]; rfl
  rw [cond_n h1]
  by_cases h2 : k > 7
  · rw [cond_p h2, bad, Option.bind_some, octet_Get_eq (by simp), if_pos (by omega), Option.bind_some, e0]; rfl
  have hlen := rdt_len r k
  rw [cond_n h2, rText_eq h, Option.bind_some, octet_Get_eq (by simp only []; omega), Option.bind_some, if_neg (by omega)]
  simp only []
  unfold getS
  by_cases hc : r.bad = true ∨ k < 0 ∨ k > r.s.length
  · have e : rdt r k = [] := by unfold rdt; rw [if_pos hc]
    rw [e, if_neg (by simp; omega)]; rfl
  · have hl2 : (rdt r k).length = k.toNat := by unfold rdt; rw [if_neg hc]; simp; omega
    rw [if_pos (by omega)]
    have e2 : ((rdt r k).drop (0 : Int).toNat).take k.toNat = rdt r k := by
      rw [show (0 : Int).toNat = 0 from rfl, List.drop_zero, List.take_of_length_le (by omega)]
    have hv : valL (rdt r k) < 2 ^ 56 := by
      have := val_lt (rdt r k)
      rw [hl2] at this
      exact pow_step this (by omega)
    simp only [e2]
    rw [wI64 (by omega) (by omega)]
theorem getS_at {s : List UInt8} {p k : Int} (h0 : 0 ≤ p) (h1 : 1 ≤ k) (h8 : k ≤ 8) (h : p + k ≤ s.length) : getS s p k = (((valL ((s.drop p.toNat).take k.toNat) : Nat) : Int), true) := by
  unfold getS; rw [if_pos (by omega)]
theorem rNew_eq (s : List UInt8) : octet_New s = some ⟨s, true, false⟩ := rfl
end Go.Vm.Code

namespace Go.Vm.Code
open Go Go.Vm Go.Proofs
set_option maxRecDepth 100000
set_option maxHeartbeats 4000000
set_option linter.unusedVariables false

/-! (cloakroom/ipsix.Head).may -/
def ipsix_Head_mayF (ha0 : ipsix_Head) : Option Bool :=
  cond (decide (ha0.Class < 0))
    (
    some (false))
    (
    cond (decide (ha0.Class > 255))
      (
      some (false))
      (
      cond (decide (ha0.Label < 0))
        (
        some (false))
        (
        cond (decide (ha0.Label > 1048575))
          (
          some (false))
          (
          cond (decide (ha0.Next < 0))
            (
            some (false))
            (
            cond (decide (ha0.Next > 255))
              (
              some (false))
              (
              cond (decide (ha0.Hop < 0))
                (
                some (false))
                (
                cond (decide (ha0.Hop > 255))
                  (
                  some (false))
                  (
                  cond (ha0.Src.V6)
                    (
                    some (ha0.Dst.V6))
                    (
                    some (false))))))))))
def post77 (x : Bool) (v : Value) (H : Hp) : Prop := v = .bool x
def r77 (g : ipsix_Head → Option Bool) : List SArg → Option SRes
  | [.v (.agg ⟨[.int .i64 a0_1, .int .i64 a0_2, .int .i64 a0_3, .int .i64 a0_4, .bool a0_5, .int .u64 a0_6, .int .u64 a0_7, .bool a0_8, .int .u64 a0_9, .int .u64 a0_10]⟩)] => match g (ipsix_Head.mk a0_1 a0_2 a0_3 a0_4 (api_Addr.mk a0_5 a0_6 a0_7) (api_Addr.mk a0_8 a0_9 a0_10)) with | some x => some ⟨.bool x, [], []⟩ | none => none
  | _ => none
def s77 (g : ipsix_Head → Option Bool) : Summ := ⟨[.v], r77 g⟩
theorem r77_eq {g : ipsix_Head → Option Bool} {a0_1 : Int} {a0_2 : Int} {a0_3 : Int} {a0_4 : Int} {a0_5 : Bool} {a0_6 : Int} {a0_7 : Int} {a0_8 : Bool} {a0_9 : Int} {a0_10 : Int} {x : Bool} (hx : g (ipsix_Head.mk a0_1 a0_2 a0_3 a0_4 (api_Addr.mk a0_5 a0_6 a0_7) (api_Addr.mk a0_8 a0_9 a0_10)) = some x) : (s77 g).run [.v (.agg ⟨[.int .i64 a0_1, .int .i64 a0_2, .int .i64 a0_3, .int .i64 a0_4, .bool a0_5, .int .u64 a0_6, .int .u64 a0_7, .bool a0_8, .int .u64 a0_9, .int .u64 a0_10]⟩)] = some ⟨.bool x, [], []⟩ := by
  show r77 g [.v (.agg ⟨[.int .i64 a0_1, .int .i64 a0_2, .int .i64 a0_3, .int .i64 a0_4, .bool a0_5, .int .u64 a0_6, .int .u64 a0_7, .bool a0_8, .int .u64 a0_9, .int .u64 a0_10]⟩)] = _
  simp only [r77, hx]
abbrev sums77 : List (Nat × Summ) := []
theorem leads77 (hS : SumsOK Try.prog (aget (sums77))) (ha0 : ipsix_Head) (res : Bool) (h : ipsix_Head_mayF ha0 = some res) :
    Leads Try.prog 77 0 ⟨⟨77, 42, [(0, .agg ⟨[.int .i64 ha0.Class, .int .i64 ha0.Label, .int .i64 ha0.Next, .int .i64 ha0.Hop, .bool ha0.Src.V6, .int .u64 ha0.Src.Hi, .int .u64 ha0.Src.Lo, .bool ha0.Dst.V6, .int .u64 ha0.Dst.Hi, .int .u64 ha0.Dst.Lo]⟩)], [.code k77_22], [], false, none⟩, [], [], 0⟩ (fun v H _ => post77 res v H) := by
  unfold ipsix_Head_mayF at h
  refine ev_ok tab_ok hS true 3000 ?_
  conv => whnf
  refine ev_ok tab_ok hS true 3000 ?_
  conv => whnf
  refine br.h h ?_ ?_ ?_
  · rfl
  · clear h; intro hb h; conv => whnf
    all_goals (cases h)
    all_goals exact rfl
  clear h; intro hb h; conv => whnf
  refine br.h h ?_ ?_ ?_
  · rfl
  · clear h; intro hb h; conv => whnf
    all_goals (cases h)
    all_goals exact rfl
  clear h; intro hb h; conv => whnf
  refine ev_ok tab_ok hS true 3000 ?_
  conv => whnf
  refine br.h h ?_ ?_ ?_
  · rfl
  · clear h; intro hb h; conv => whnf
    all_goals (cases h)
    all_goals exact rfl
  clear h; intro hb h; conv => whnf
  refine br.h h ?_ ?_ ?_
  · rfl
  · clear h; intro hb h; conv => whnf
    all_goals (cases h)
    all_goals exact rfl
  clear h; intro hb h; conv => whnf
  refine ev_ok tab_ok hS true 3000 ?_
  conv => whnf
  refine br.h h ?_ ?_ ?_
  · rfl
  · clear h; intro hb h; conv => whnf
    all_goals (cases h)
    all_goals exact rfl
  clear h; intro hb h; conv => whnf
  refine br.h h ?_ ?_ ?_
  · rfl
  · clear h; intro hb h; conv => whnf
    all_goals (cases h)
    all_goals exact rfl
  clear h; intro hb h; conv => whnf
  refine ev_ok tab_ok hS true 3000 ?_
  conv => whnf
  refine br.h h ?_ ?_ ?_
  · rfl
  · clear h; intro hb h; conv => whnf
    all_goals (cases h)
    all_goals exact rfl
  clear h; intro hb h; conv => whnf
  refine br.h h ?_ ?_ ?_
  · rfl
  · clear h; intro hb h; conv => whnf
    all_goals (cases h)
    all_goals exact rfl
  clear h; intro hb h; conv => whnf
  refine ev_ok tab_ok hS true 3000 ?_
  conv => whnf
  refine br.h h ?_ ?_ ?_
  · rfl
  · clear h; intro hb h; conv => whnf
    all_goals (cases h)
    all_goals exact rfl
  clear h; intro hb h; conv => whnf
  all_goals (cases h)
  all_goals exact rfl
theorem ok77 (hS : SumsOK Try.prog (aget (sums77))) : SumOK Try.prog 77 (s77 (ipsix_Head_mayF)) := by
  refine SumOK.of_leads tab_ok (fun ar r ha hr => ?_) ⟨Try.f77, rfl, by decide, rfl⟩
  simp only [s77] at ha hr
  unfold r77 at hr
  split at hr <;> try (cases hr; done)
  split at hr <;> cases hr
  rename_i x h
  refine ⟨_, rfl, (leads77 hS _ x h).mono fun v H t hp => ?_⟩
  cases hp
  exact Res.val rfl trivial
def ipsix_Head_may : ipsix_Head → Option Bool := ipsix_Head_mayF
theorem lift77 : SumOK Try.prog 77 (s77 ipsix_Head_may) := ok77 (SumsOK.of_tab trivial)
end Go.Vm.Code

namespace Go.Vm.Code
open Go Go.Vm Go.Proofs
set_option maxRecDepth 100000
set_option maxHeartbeats 4000000
set_option linter.unusedVariables false

/-! cloakroom/addr.Right -/
def addr_RightF (a : api_Addr) : Option Bool :=
  cond (a.V6)
    (
    some (true))
    (
    cond (a.Hi == 0)
      (
      some (decide (a.Lo < 4294967296)))
      (
      some (false)))
def post94 (x : Bool) (v : Value) (H : Hp) : Prop := v = .bool x
def r94 (g : api_Addr → Option Bool) : List SArg → Option SRes
  | [.v (.agg ⟨[.bool a0_1, .int .u64 a0_2, .int .u64 a0_3]⟩)] => match g (api_Addr.mk a0_1 a0_2 a0_3) with | some x => some ⟨.bool x, [], []⟩ | none => none
  | _ => none
def s94 (g : api_Addr → Option Bool) : Summ := ⟨[.v], r94 g⟩
theorem r94_eq {g : api_Addr → Option Bool} {a0_1 : Bool} {a0_2 : Int} {a0_3 : Int} {x : Bool} (hx : g (api_Addr.mk a0_1 a0_2 a0_3) = some x) : (s94 g).run [.v (.agg ⟨[.bool a0_1, .int .u64 a0_2, .int .u64 a0_3]⟩)] = some ⟨.bool x, [], []⟩ := by
  show r94 g [.v (.agg ⟨[.bool a0_1, .int .u64 a0_2, .int .u64 a0_3]⟩)] = _
  simp only [r94, hx]
abbrev sums94 : List (Nat × Summ) := []
theorem leads94 (hS : SumsOK Try.prog (aget (sums94))) (a : api_Addr) (res : Bool) (h : addr_RightF a = some res) :
    Leads Try.prog 94 0 ⟨⟨94, 15, [(0, .agg ⟨[.bool a.V6, .int .u64 a.Hi, .int .u64 a.Lo]⟩)], [.code k94_3], [], false, none⟩, [], [], 0⟩ (fun v H _ => post94 res v H) := by
  unfold addr_RightF at h
  refine ev_ok tab_ok hS true 3000 ?_
  conv => whnf
  refine br.h h ?_ ?_ ?_
  · rfl
  · clear h; intro hb h; conv => whnf
    all_goals (cases h)
    all_goals exact rfl
  clear h; intro hb h; conv => whnf
  refine br.h h ?_ ?_ ?_
  · rfl
  · clear h; intro hb h; conv => whnf
    all_goals (cases h)
    all_goals exact rfl
  clear h; intro hb h; conv => whnf
  all_goals (cases h)
  all_goals exact rfl
theorem ok94 (hS : SumsOK Try.prog (aget (sums94))) : SumOK Try.prog 94 (s94 (addr_RightF)) := by
  refine SumOK.of_leads tab_ok (fun ar r ha hr => ?_) ⟨Try.f94, rfl, by decide, rfl⟩
  simp only [s94] at ha hr
  unfold r94 at hr
  split at hr <;> try (cases hr; done)
  split at hr <;> cases hr
  rename_i x h
  refine ⟨_, rfl, (leads94 hS _ x h).mono fun v H t hp => ?_⟩
  cases hp
  exact Res.val rfl trivial
def addr_Right : api_Addr → Option Bool := addr_RightF
theorem lift94 : SumOK Try.prog 94 (s94 addr_Right) := ok94 (SumsOK.of_tab trivial)
end Go.Vm.Code

namespace Go.Vm.Code
open Go Go.Vm Go.Proofs
set_option maxRecDepth 100000
set_option maxHeartbeats 4000000
set_option linter.unusedVariables false

/-! cloakroom/addr.Put -/
def addr_PutF (octet_Put : Int → Int → Option (List UInt8)) (addr_Right : api_Addr → Option Bool) (a : api_Addr) : Option (List UInt8) :=
  (addr_Right a).bind fun xr =>
  cond (!xr)
    (
    some ([]))
    (
    cond (a.V6)
      (
      (octet_Put a.Hi 8).bind fun p =>
      (octet_Put a.Lo 8).bind fun p1 =>
      oreq (decide (p.length + p1.length < 2 ^ 63)) <|
      some (p ++ p1))
      (
      (octet_Put a.Lo 4).bind fun p2 =>
      some (p2)))
def post78 (x : List UInt8) (v : Value) (H : Hp) : Prop := v = .string ⟨⟨x⟩⟩
def r78 (g : api_Addr → Option (List UInt8)) : List SArg → Option SRes
  | [.v (.agg ⟨[.bool a0_1, .int .u64 a0_2, .int .u64 a0_3]⟩)] => match g (api_Addr.mk a0_1 a0_2 a0_3) with | some x => some ⟨.string ⟨⟨x⟩⟩, [], []⟩ | none => none
  | _ => none
def s78 (g : api_Addr → Option (List UInt8)) : Summ := ⟨[.v], r78 g⟩
theorem r78_eq {g : api_Addr → Option (List UInt8)} {a0_1 : Bool} {a0_2 : Int} {a0_3 : Int} {x : List UInt8} (hx : g (api_Addr.mk a0_1 a0_2 a0_3) = some x) : (s78 g).run [.v (.agg ⟨[.bool a0_1, .int .u64 a0_2, .int .u64 a0_3]⟩)] = some ⟨.string ⟨⟨x⟩⟩, [], []⟩ := by
  show r78 g [.v (.agg ⟨[.bool a0_1, .int .u64 a0_2, .int .u64 a0_3]⟩)] = _
  simp only [r78, hx]
abbrev sums78 (octet_Put : Int → Int → Option (List UInt8)) (addr_Right : api_Addr → Option Bool) : List (Nat × Summ) := [(74, s74 octet_Put), (94, s94 addr_Right)]
theorem leads78 (octet_Put : Int → Int → Option (List UInt8)) (addr_Right : api_Addr → Option Bool) (hS : SumsOK Try.prog (aget (sums78 octet_Put addr_Right))) (a : api_Addr) (res : List UInt8) (h : addr_PutF octet_Put addr_Right a = some res) :
    Leads Try.prog 78 0 ⟨⟨78, 20, [(0, .agg ⟨[.bool a.V6, .int .u64 a.Hi, .int .u64 a.Lo]⟩)], [.code k78_15], [], false, none⟩, [], [], 0⟩ (fun v H _ => post78 res v H) := by
  unfold addr_PutF at h
  refine ev_ok tab_ok hS true 3000 ?_
  conv => whnf
  obtain ⟨xr, hy, h2⟩ := obind.elim h; clear h; have h := h2; clear h2
  refine sumK.introF [] (sumRun_of (aqs := [.v (.agg ⟨[.bool a.V6, .int .u64 a.Hi, .int .u64 a.Lo]⟩)]) (ra_cons rfl ra_nil) (r94_eq hy) rfl rfl rfl rfl) ?_
  conv => whnf
  refine br.h h ?_ ?_ ?_
  · rfl
  · clear h; intro hb h; conv => whnf
    all_goals (cases h)
    all_goals exact rfl
  clear h; intro hb h; conv => whnf
  refine br.h2 h ?_ ?_ ?_
  · rfl
  · clear h; intro hb h; conv => whnf
    obtain ⟨p2, hy, h2⟩ := obind.elim h; clear h; have h := h2; clear h2
    refine sumK.introF [] (sumRun_of (aqs := [.v (.int .u64 a.Lo), .v (.int .i64 4)]) (ra_cons rfl (ra_cons rfl ra_nil)) (r74_eq hy) rfl rfl rfl rfl) ?_
    conv => whnf
    all_goals (cases h)
    all_goals exact rfl
  clear h; intro hb h; conv => whnf
  obtain ⟨p, hy, h2⟩ := obind.elim h; clear h; have h := h2; clear h2
  refine sumK.introF [] (sumRun_of (aqs := [.v (.int .u64 a.Hi), .v (.int .i64 8)]) (ra_cons rfl (ra_cons rfl ra_nil)) (r74_eq hy) rfl rfl rfl rfl) ?_
  conv => whnf
  obtain ⟨p1, hy, h2⟩ := obind.elim h; clear h; have h := h2; clear h2
  refine sumK.introF [] (sumRun_of (aqs := [.v (.int .u64 a.Lo), .v (.int .i64 8)]) (ra_cons rfl (ra_cons rfl ra_nil)) (r74_eq hy) rfl rfl rfl rfl) ?_
  conv => whnf
  replace h := oreq.elim h; have hb := h.1; replace h := h.2
  first | (refine req.intro hb ?_; conv => whnf) | skip
  all_goals (cases h)
  all_goals exact rfl
theorem ok78 (octet_Put : Int → Int → Option (List UInt8)) (addr_Right : api_Addr → Option Bool) (hS : SumsOK Try.prog (aget (sums78 octet_Put addr_Right))) : SumOK Try.prog 78 (s78 (addr_PutF octet_Put addr_Right)) := by
  refine SumOK.of_leads tab_ok (fun ar r ha hr => ?_) ⟨Try.f78, rfl, by decide, rfl⟩
  simp only [s78] at ha hr
  unfold r78 at hr
  split at hr <;> try (cases hr; done)
  split at hr <;> cases hr
  rename_i x h
  refine ⟨_, rfl, (leads78 octet_Put addr_Right hS _ x h).mono fun v H t hp => ?_⟩
  cases hp
  exact Res.val rfl trivial
def addr_Put : api_Addr → Option (List UInt8) := addr_PutF octet_Put addr_Right
theorem lift78 : SumOK Try.prog 78 (s78 addr_Put) := ok78 octet_Put addr_Right (SumsOK.of_tab ⟨lift74, lift94, trivial⟩)
end Go.Vm.Code

namespace Go.Vm.Code
open Go Go.Vm Go.Proofs
set_option maxRecDepth 100000
set_option maxHeartbeats 4000000
set_option linter.unusedVariables false

/-! cloakroom/ipsix.Put -/
def ipsix_PutF (octet_Put : Int → Int → Option (List UInt8)) (ipsix_Head_may : ipsix_Head → Option Bool) (addr_Put : api_Addr → Option (List UInt8)) (ha0 : ipsix_Head) (payload : List UInt8) : Option ((List UInt8) × Int) :=
  (ipsix_Head_may ha0).bind fun m =>
  cond (!m)
    (
    some (([], 1)))
    (
    cond (decide ((payload.length : Int) > 65535))
      (
      some (([], 5)))
      (
      let t := iorI .u64 1610612736 (wI .u64 ((wI .u64 ha0.Class) * 2 ^ 20))
      (octet_Put (iorI .u64 t (wI .u64 ha0.Label)) 4).bind fun p =>
      let t1 := wI .u64 ((wI .u64 (payload.length : Int)) * 2 ^ 16)
      let t2 := iorI .u64 t1 (wI .u64 ((wI .u64 ha0.Next) * 2 ^ 8))
      (octet_Put (iorI .u64 t2 (wI .u64 ha0.Hop)) 4).bind fun p1 =>
      oreq (decide (p.length + p1.length < 2 ^ 63)) <|
      (addr_Put ha0.Src).bind fun p2 =>
      oreq (decide ((p ++ p1).length + p2.length < 2 ^ 63)) <|
      (addr_Put ha0.Dst).bind fun p3 =>
      oreq (decide (((p ++ p1) ++ p2).length + p3.length < 2 ^ 63)) <|
      oreq (decide ((((p ++ p1) ++ p2) ++ p3).length + payload.length < 2 ^ 63)) <|
      some (((((p ++ p1) ++ p2) ++ p3) ++ payload, 0))))
def post50 (x : (List UInt8) × Int) (v : Value) (H : Hp) : Prop := v = .tuple ⟨[.string ⟨⟨x.1⟩⟩, .int .i64 x.2]⟩
def r50 (g : ipsix_Head → (List UInt8) → Option ((List UInt8) × Int)) : List SArg → Option SRes
  | [.v (.agg ⟨[.int .i64 a0_1, .int .i64 a0_2, .int .i64 a0_3, .int .i64 a0_4, .bool a0_5, .int .u64 a0_6, .int .u64 a0_7, .bool a0_8, .int .u64 a0_9, .int .u64 a0_10]⟩), .v (.string ⟨⟨a1_1⟩⟩)] => match g (ipsix_Head.mk a0_1 a0_2 a0_3 a0_4 (api_Addr.mk a0_5 a0_6 a0_7) (api_Addr.mk a0_8 a0_9 a0_10)) a1_1 with | some x => some ⟨.tuple ⟨[.string ⟨⟨x.1⟩⟩, .int .i64 x.2]⟩, [], []⟩ | none => none
  | _ => none
def s50 (g : ipsix_Head → (List UInt8) → Option ((List UInt8) × Int)) : Summ := ⟨[.v, .v], r50 g⟩
theorem r50_eq {g : ipsix_Head → (List UInt8) → Option ((List UInt8) × Int)} {a0_1 : Int} {a0_2 : Int} {a0_3 : Int} {a0_4 : Int} {a0_5 : Bool} {a0_6 : Int} {a0_7 : Int} {a0_8 : Bool} {a0_9 : Int} {a0_10 : Int} {a1_1 : List UInt8} {x : (List UInt8) × Int} (hx : g (ipsix_Head.mk a0_1 a0_2 a0_3 a0_4 (api_Addr.mk a0_5 a0_6 a0_7) (api_Addr.mk a0_8 a0_9 a0_10)) a1_1 = some x) : (s50 g).run [.v (.agg ⟨[.int .i64 a0_1, .int .i64 a0_2, .int .i64 a0_3, .int .i64 a0_4, .bool a0_5, .int .u64 a0_6, .int .u64 a0_7, .bool a0_8, .int .u64 a0_9, .int .u64 a0_10]⟩), .v (.string ⟨⟨a1_1⟩⟩)] = some ⟨.tuple ⟨[.string ⟨⟨x.1⟩⟩, .int .i64 x.2]⟩, [], []⟩ := by
  show r50 g [.v (.agg ⟨[.int .i64 a0_1, .int .i64 a0_2, .int .i64 a0_3, .int .i64 a0_4, .bool a0_5, .int .u64 a0_6, .int .u64 a0_7, .bool a0_8, .int .u64 a0_9, .int .u64 a0_10]⟩), .v (.string ⟨⟨a1_1⟩⟩)] = _
  simp only [r50, hx]
abbrev sums50 (octet_Put : Int → Int → Option (List UInt8)) (ipsix_Head_may : ipsix_Head → Option Bool) (addr_Put : api_Addr → Option (List UInt8)) : List (Nat × Summ) := [(74, s74 octet_Put), (77, s77 ipsix_Head_may), (78, s78 addr_Put)]
theorem leads50 (octet_Put : Int → Int → Option (List UInt8)) (ipsix_Head_may : ipsix_Head → Option Bool) (addr_Put : api_Addr → Option (List UInt8)) (hS : SumsOK Try.prog (aget (sums50 octet_Put ipsix_Head_may addr_Put))) (ha0 : ipsix_Head) (payload : List UInt8) (res : (List UInt8) × Int) (h : ipsix_PutF octet_Put ipsix_Head_may addr_Put ha0 payload = some res) :
    Leads Try.prog 50 0 ⟨⟨50, 53, [(0, .agg ⟨[.int .i64 ha0.Class, .int .i64 ha0.Label, .int .i64 ha0.Next, .int .i64 ha0.Hop, .bool ha0.Src.V6, .int .u64 ha0.Src.Hi, .int .u64 ha0.Src.Lo, .bool ha0.Dst.V6, .int .u64 ha0.Dst.Hi, .int .u64 ha0.Dst.Lo]⟩), (1, .string ⟨⟨payload⟩⟩)], [.code k50_19], [], false, none⟩, [], [], 0⟩ (fun v H _ => post50 res v H) := by
  unfold ipsix_PutF at h
  refine ev_ok tab_ok hS true 3000 ?_
  conv => whnf
  obtain ⟨m, hy, h2⟩ := obind.elim h; clear h; have h := h2; clear h2
  refine sumK.introF [] (sumRun_of (aqs := [.v (.agg ⟨[.int .i64 ha0.Class, .int .i64 ha0.Label, .int .i64 ha0.Next, .int .i64 ha0.Hop, .bool ha0.Src.V6, .int .u64 ha0.Src.Hi, .int .u64 ha0.Src.Lo, .bool ha0.Dst.V6, .int .u64 ha0.Dst.Hi, .int .u64 ha0.Dst.Lo]⟩)]) (ra_cons rfl ra_nil) (r77_eq hy) rfl rfl rfl rfl) ?_
  conv => whnf
  refine br.h h ?_ ?_ ?_
  · rfl
  · clear h; intro hb h; conv => whnf
    all_goals (cases h)
    all_goals exact rfl
  clear h; intro hb h; conv => whnf
  refine br.h h ?_ ?_ ?_
  · rfl
  · clear h; intro hb h; conv => whnf
    all_goals (cases h)
    all_goals exact rfl
  clear h; intro hb h; conv => whnf
  let t : Int := iorI .u64 1610612736 (wI .u64 ((wI .u64 ha0.Class) * 2 ^ 20))
  obtain ⟨p, hy, h2⟩ := obind.elim h; clear h; have h := h2; clear h2
  refine sumK.introF [] (sumRun_of (aqs := [.v (.int .u64 (iorI .u64 t (wI .u64 ha0.Label))), .v (.int .i64 4)]) (ra_cons rfl (ra_cons rfl ra_nil)) (r74_eq hy) rfl rfl rfl rfl) ?_
  conv => whnf
  let t1 : Int := wI .u64 ((wI .u64 (payload.length : Int)) * 2 ^ 16)
  let t2 : Int := iorI .u64 t1 (wI .u64 ((wI .u64 ha0.Next) * 2 ^ 8))
  obtain ⟨p1, hy, h2⟩ := obind.elim h; clear h; have h := h2; clear h2
  refine sumK.introF [] (sumRun_of (aqs := [.v (.int .u64 (iorI .u64 t2 (wI .u64 ha0.Hop))), .v (.int .i64 4)]) (ra_cons rfl (ra_cons rfl ra_nil)) (r74_eq hy) rfl rfl rfl rfl) ?_
  conv => whnf
  replace h := oreq.elim h; have hb := h.1; replace h := h.2
  first | (refine req.intro hb ?_; conv => whnf) | skip
  obtain ⟨p2, hy, h2⟩ := obind.elim h; clear h; have h := h2; clear h2
  refine sumK.introF [] (sumRun_of (aqs := [.v (.agg ⟨[.bool ha0.Src.V6, .int .u64 ha0.Src.Hi, .int .u64 ha0.Src.Lo]⟩)]) (ra_cons rfl ra_nil) (r78_eq hy) rfl rfl rfl rfl) ?_
  conv => whnf
  replace h := oreq.elim h; have hb := h.1; replace h := h.2
  first | (refine req.intro hb ?_; conv => whnf) | skip
  obtain ⟨p3, hy, h2⟩ := obind.elim h; clear h; have h := h2; clear h2
  refine sumK.introF [] (sumRun_of (aqs := [.v (.agg ⟨[.bool ha0.Dst.V6, .int .u64 ha0.Dst.Hi, .int .u64 ha0.Dst.Lo]⟩)]) (ra_cons rfl ra_nil) (r78_eq hy) rfl rfl rfl rfl) ?_
  conv => whnf
  replace h := oreq.elim h; have hb := h.1; replace h := h.2
  first | (refine req.intro hb ?_; conv => whnf) | skip
  replace h := oreq.elim h; have hb := h.1; replace h := h.2
  first | (refine req.intro hb ?_; conv => whnf) | skip
  all_goals (cases h)
  all_goals exact rfl
theorem ok50 (octet_Put : Int → Int → Option (List UInt8)) (ipsix_Head_may : ipsix_Head → Option Bool) (addr_Put : api_Addr → Option (List UInt8)) (hS : SumsOK Try.prog (aget (sums50 octet_Put ipsix_Head_may addr_Put))) : SumOK Try.prog 50 (s50 (ipsix_PutF octet_Put ipsix_Head_may addr_Put)) := by
  refine SumOK.of_leads tab_ok (fun ar r ha hr => ?_) ⟨Try.f50, rfl, by decide, rfl⟩
  simp only [s50] at ha hr
  unfold r50 at hr
  split at hr <;> try (cases hr; done)
  split at hr <;> cases hr
  rename_i x h
  refine ⟨_, rfl, (leads50 octet_Put ipsix_Head_may addr_Put hS _ _ x h).mono fun v H t hp => ?_⟩
  cases hp
  exact Res.val rfl trivial
def ipsix_Put : ipsix_Head → (List UInt8) → Option ((List UInt8) × Int) := ipsix_PutF octet_Put ipsix_Head_may addr_Put
theorem lift50 : SumOK Try.prog 50 (s50 ipsix_Put) := ok50 octet_Put ipsix_Head_may addr_Put (SumsOK.of_tab ⟨lift74, lift77, lift78, trivial⟩)
end Go.Vm.Code

namespace Go.Vm.Code
open Go Go.Vm Go.Proofs
set_option maxRecDepth 100000
set_option maxHeartbeats 4000000
set_option linter.unusedVariables false

/-! cloakroom/addr.Get -/
def addr_GetF (octet_Get : (List UInt8) → Int → Int → Option (Int × Bool)) (s : List UInt8) : Option (api_Addr × Bool) :=
  cond ((s.length : Int) == 4)
    (
    (octet_Get s 0 4).bind fun xg =>
    some ((api_Addr.mk false 0 xg.1, true)))
    (
    cond ((s.length : Int) == 16)
      (
      (octet_Get s 0 8).bind fun xg1 =>
      (octet_Get s 8 8).bind fun xg2 =>
      some ((api_Addr.mk true xg1.1 xg2.1, true)))
      (
      some ((api_Addr.mk false 0 0, false))))
def post86 (x : api_Addr × Bool) (v : Value) (H : Hp) : Prop := v = .tuple ⟨[.agg ⟨[.bool x.1.V6, .int .u64 x.1.Hi, .int .u64 x.1.Lo]⟩, .bool x.2]⟩
def r86 (g : (List UInt8) → Option (api_Addr × Bool)) : List SArg → Option SRes
  | [.v (.string ⟨⟨a0_1⟩⟩)] => match g a0_1 with | some x => some ⟨.tuple ⟨[.agg ⟨[.bool x.1.V6, .int .u64 x.1.Hi, .int .u64 x.1.Lo]⟩, .bool x.2]⟩, [], []⟩ | none => none
  | _ => none
def s86 (g : (List UInt8) → Option (api_Addr × Bool)) : Summ := ⟨[.v], r86 g⟩
theorem r86_eq {g : (List UInt8) → Option (api_Addr × Bool)} {a0_1 : List UInt8} {x : api_Addr × Bool} (hx : g a0_1 = some x) : (s86 g).run [.v (.string ⟨⟨a0_1⟩⟩)] = some ⟨.tuple ⟨[.agg ⟨[.bool x.1.V6, .int .u64 x.1.Hi, .int .u64 x.1.Lo]⟩, .bool x.2]⟩, [], []⟩ := by
  show r86 g [.v (.string ⟨⟨a0_1⟩⟩)] = _
  simp only [r86, hx]
abbrev sums86 (octet_Get : (List UInt8) → Int → Int → Option (Int × Bool)) : List (Nat × Summ) := [(73, s73 octet_Get)]
theorem leads86 (octet_Get : (List UInt8) → Int → Int → Option (Int × Bool)) (hS : SumsOK Try.prog (aget (sums86 octet_Get))) (s : List UInt8) (res : api_Addr × Bool) (h : addr_GetF octet_Get s = some res) :
    Leads Try.prog 86 0 ⟨⟨86, 35, [(0, .string ⟨⟨s⟩⟩)], [.code k86_25], [], false, none⟩, [], [], 0⟩ (fun v H _ => post86 res v H) := by
  unfold addr_GetF at h
  refine ev_ok tab_ok hS true 3000 ?_
  conv => whnf
  refine br.h h ?_ ?_ ?_
  · rfl
  · clear h; intro hb h; conv => whnf
    obtain ⟨xg, hy, h2⟩ := obind.elim h; clear h; have h := h2; clear h2
    refine sumK.introF [] (sumRun_of (aqs := [.v (.string ⟨⟨s⟩⟩), .v (.int .i64 0), .v (.int .i64 4)]) (ra_cons rfl (ra_cons rfl (ra_cons rfl ra_nil))) (r73_eq hy) rfl rfl rfl rfl) ?_
    conv => whnf
    all_goals (cases h)
    all_goals exact rfl
  clear h; intro hb h; conv => whnf
  refine br.h2 h ?_ ?_ ?_
  · rfl
  · clear h; intro hb h; conv => whnf
    all_goals (cases h)
    all_goals exact rfl
  clear h; intro hb h; conv => whnf
  obtain ⟨xg1, hy, h2⟩ := obind.elim h; clear h; have h := h2; clear h2
  refine sumK.introF [] (sumRun_of (aqs := [.v (.string ⟨⟨s⟩⟩), .v (.int .i64 0), .v (.int .i64 8)]) (ra_cons rfl (ra_cons rfl (ra_cons rfl ra_nil))) (r73_eq hy) rfl rfl rfl rfl) ?_
  conv => whnf
  obtain ⟨xg2, hy, h2⟩ := obind.elim h; clear h; have h := h2; clear h2
  refine sumK.introF [] (sumRun_of (aqs := [.v (.string ⟨⟨s⟩⟩), .v (.int .i64 8), .v (.int .i64 8)]) (ra_cons rfl (ra_cons rfl (ra_cons rfl ra_nil))) (r73_eq hy) rfl rfl rfl rfl) ?_
  conv => whnf
  all_goals (cases h)
  all_goals exact rfl
theorem ok86 (octet_Get : (List UInt8) → Int → Int → Option (Int × Bool)) (hS : SumsOK Try.prog (aget (sums86 octet_Get))) : SumOK Try.prog 86 (s86 (addr_GetF octet_Get)) := by
  refine SumOK.of_leads tab_ok (fun ar r ha hr => ?_) ⟨Try.f86, rfl, by decide, rfl⟩
  simp only [s86] at ha hr
  unfold r86 at hr
  split at hr <;> try (cases hr; done)
  split at hr <;> cases hr
  rename_i x h
  refine ⟨_, rfl, (leads86 octet_Get hS _ x h).mono fun v H t hp => ?_⟩
  cases hp
  exact Res.val rfl trivial
def addr_Get : (List UInt8) → Option (api_Addr × Bool) := addr_GetF octet_Get
theorem lift86 : SumOK Try.prog 86 (s86 addr_Get) := ok86 octet_Get (SumsOK.of_tab ⟨lift73, trivial⟩)
end Go.Vm.Code

namespace Go.Vm.Code
open Go Go.Vm Go.Proofs
set_option maxRecDepth 100000
set_option maxHeartbeats 4000000
set_option linter.unusedVariables false

/-! cloakroom/ipsix.Get -/
def ipsix_GetF (octet_New : (List UInt8) → Option octet_Reader) (octet_Reader_Num : octet_Reader → Int → Option (Int × octet_Reader)) (octet_Reader_Text : octet_Reader → Int → Option ((List UInt8) × octet_Reader)) (octet_Reader_Bad : octet_Reader → Option (Bool × octet_Reader)) (addr_Get : (List UInt8) → Option (api_Addr × Bool)) (s : List UInt8) : Option (ipsix_Head × (List UInt8) × Int) :=
  (octet_New s).bind fun n =>
  (octet_Reader_Num n 4).bind fun n1 =>
  (octet_Reader_Num n1.2 2).bind fun n2 =>
  (octet_Reader_Num n2.2 1).bind fun n3 =>
  (octet_Reader_Num n3.2 1).bind fun n4 =>
  (octet_Reader_Text n4.2 16).bind fun t =>
  (octet_Reader_Text t.2 16).bind fun t1 =>
  (octet_Reader_Bad t1.2).bind fun b =>
  cond (b.1)
    (
    some ((ipsix_Head.mk 0 0 0 0 (api_Addr.mk false 0 0) (api_Addr.mk false 0 0), [], 2)))
    (
    cond ((n1.1.fdiv (2 ^ 28)) != 6)
      (
      some ((ipsix_Head.mk 0 0 0 0 (api_Addr.mk false 0 0) (api_Addr.mk false 0 0), [], 3)))
      (
      (addr_Get t.1).bind fun xg =>
      (addr_Get t1.1).bind fun xg1 =>
      (octet_Reader_Text b.2 n2.1).bind fun t2 =>
      (octet_Reader_Bad t2.2).bind fun b1 =>
      cond (b1.1)
        (
        some ((ipsix_Head.mk 0 0 0 0 (api_Addr.mk false 0 0) (api_Addr.mk false 0 0), [], 2)))
        (
        some ((ipsix_Head.mk (andI .i64 (n1.1.fdiv (2 ^ 20)) 255) (andI .i64 n1.1 1048575) n3.1 n4.1 xg.1 xg1.1, t2.1, 0)))))
def post53 (x : ipsix_Head × (List UInt8) × Int) (v : Value) (H : Hp) : Prop := v = .tuple ⟨[.agg ⟨[.int .i64 x.1.Class, .int .i64 x.1.Label, .int .i64 x.1.Next, .int .i64 x.1.Hop, .bool x.1.Src.V6, .int .u64 x.1.Src.Hi, .int .u64 x.1.Src.Lo, .bool x.1.Dst.V6, .int .u64 x.1.Dst.Hi, .int .u64 x.1.Dst.Lo]⟩, .string ⟨⟨x.2.1⟩⟩, .int .i64 x.2.2]⟩
def r53 (g : (List UInt8) → Option (ipsix_Head × (List UInt8) × Int)) : List SArg → Option SRes
  | [.v (.string ⟨⟨a0_1⟩⟩)] => match g a0_1 with | some x => some ⟨.tuple ⟨[.agg ⟨[.int .i64 x.1.Class, .int .i64 x.1.Label, .int .i64 x.1.Next, .int .i64 x.1.Hop, .bool x.1.Src.V6, .int .u64 x.1.Src.Hi, .int .u64 x.1.Src.Lo, .bool x.1.Dst.V6, .int .u64 x.1.Dst.Hi, .int .u64 x.1.Dst.Lo]⟩, .string ⟨⟨x.2.1⟩⟩, .int .i64 x.2.2]⟩, [], []⟩ | none => none
  | _ => none
def s53 (g : (List UInt8) → Option (ipsix_Head × (List UInt8) × Int)) : Summ := ⟨[.v], r53 g⟩
theorem r53_eq {g : (List UInt8) → Option (ipsix_Head × (List UInt8) × Int)} {a0_1 : List UInt8} {x : ipsix_Head × (List UInt8) × Int} (hx : g a0_1 = some x) : (s53 g).run [.v (.string ⟨⟨a0_1⟩⟩)] = some ⟨.tuple ⟨[.agg ⟨[.int .i64 x.1.Class, .int .i64 x.1.Label, .int .i64 x.1.Next, .int .i64 x.1.Hop, .bool x.1.Src.V6, .int .u64 x.1.Src.Hi, .int .u64 x.1.Src.Lo, .bool x.1.Dst.V6, .int .u64 x.1.Dst.Hi, .int .u64 x.1.Dst.Lo]⟩, .string ⟨⟨x.2.1⟩⟩, .int .i64 x.2.2]⟩, [], []⟩ := by
  show r53 g [.v (.string ⟨⟨a0_1⟩⟩)] = _
  simp only [r53, hx]
abbrev sums53 (octet_New : (List UInt8) → Option octet_Reader) (octet_Reader_Num : octet_Reader → Int → Option (Int × octet_Reader)) (octet_Reader_Text : octet_Reader → Int → Option ((List UInt8) × octet_Reader)) (octet_Reader_Bad : octet_Reader → Option (Bool × octet_Reader)) (addr_Get : (List UInt8) → Option (api_Addr × Bool)) : List (Nat × Summ) := [(82, s82 octet_New), (83, s83 octet_Reader_Num), (84, s84 octet_Reader_Text), (85, s85 octet_Reader_Bad), (86, s86 addr_Get)]
theorem leads53 (octet_New : (List UInt8) → Option octet_Reader) (octet_Reader_Num : octet_Reader → Int → Option (Int × octet_Reader)) (octet_Reader_Text : octet_Reader → Int → Option ((List UInt8) × octet_Reader)) (octet_Reader_Bad : octet_Reader → Option (Bool × octet_Reader)) (addr_Get : (List UInt8) → Option (api_Addr × Bool)) (hS : SumsOK Try.prog (aget (sums53 octet_New octet_Reader_Num octet_Reader_Text octet_Reader_Bad addr_Get))) (s : List UInt8) (res : ipsix_Head × (List UInt8) × Int) (h : ipsix_GetF octet_New octet_Reader_Num octet_Reader_Text octet_Reader_Bad addr_Get s = some res) :
    Leads Try.prog 53 0 ⟨⟨53, 59, [(0, .string ⟨⟨s⟩⟩)], [.code k53_35], [], false, none⟩, [], [], 0⟩ (fun v H _ => post53 res v H) := by
  unfold ipsix_GetF at h
  refine ev_ok tab_ok hS true 3000 ?_
  conv => whnf
  obtain ⟨n, hy, h2⟩ := obind.elim h; clear h; have h := h2; clear h2
  refine sumK.introF [] (sumRun_of (aqs := [.v (.string ⟨⟨s⟩⟩)]) (ra_cons rfl ra_nil) (r82_eq hy) rfl rfl rfl rfl) ?_
  conv => whnf
  obtain ⟨n1, hy, h2⟩ := obind.elim h; clear h; have h := h2; clear h2
  refine sumK.introF [1] (sumRun_of (aqs := [.pt [.string ⟨⟨n.s⟩⟩, .bool n.made, .bool n.bad], .v (.int .i64 4)]) (ra_cons rfl (ra_cons rfl ra_nil)) (r83_eq hy) rfl rfl rfl rfl) ?_
  conv => whnf
  obtain ⟨n2, hy, h2⟩ := obind.elim h; clear h; have h := h2; clear h2
  refine sumK.introF [1] (sumRun_of (aqs := [.pt [.string ⟨⟨n1.2.s⟩⟩, .bool n1.2.made, .bool n1.2.bad], .v (.int .i64 2)]) (ra_cons rfl (ra_cons rfl ra_nil)) (r83_eq hy) rfl rfl rfl rfl) ?_
  conv => whnf
  obtain ⟨n3, hy, h2⟩ := obind.elim h; clear h; have h := h2; clear h2
  refine sumK.introF [1] (sumRun_of (aqs := [.pt [.string ⟨⟨n2.2.s⟩⟩, .bool n2.2.made, .bool n2.2.bad], .v (.int .i64 1)]) (ra_cons rfl (ra_cons rfl ra_nil)) (r83_eq hy) rfl rfl rfl rfl) ?_
  conv => whnf
  obtain ⟨n4, hy, h2⟩ := obind.elim h; clear h; have h := h2; clear h2
  refine sumK.introF [1] (sumRun_of (aqs := [.pt [.string ⟨⟨n3.2.s⟩⟩, .bool n3.2.made, .bool n3.2.bad], .v (.int .i64 1)]) (ra_cons rfl (ra_cons rfl ra_nil)) (r83_eq hy) rfl rfl rfl rfl) ?_
  conv => whnf
  obtain ⟨t, hy, h2⟩ := obind.elim h; clear h; have h := h2; clear h2
  refine sumK.introF [1] (sumRun_of (aqs := [.pt [.string ⟨⟨n4.2.s⟩⟩, .bool n4.2.made, .bool n4.2.bad], .v (.int .i64 16)]) (ra_cons rfl (ra_cons rfl ra_nil)) (r84_eq hy) rfl rfl rfl rfl) ?_
  conv => whnf
  obtain ⟨t1, hy, h2⟩ := obind.elim h; clear h; have h := h2; clear h2
  refine sumK.introF [1] (sumRun_of (aqs := [.pt [.string ⟨⟨t.2.s⟩⟩, .bool t.2.made, .bool t.2.bad], .v (.int .i64 16)]) (ra_cons rfl (ra_cons rfl ra_nil)) (r84_eq hy) rfl rfl rfl rfl) ?_
  conv => whnf
  obtain ⟨b, hy, h2⟩ := obind.elim h; clear h; have h := h2; clear h2
  refine sumK.introF [1] (sumRun_of (aqs := [.pt [.string ⟨⟨t1.2.s⟩⟩, .bool t1.2.made, .bool t1.2.bad]]) (ra_cons rfl ra_nil) (r85_eq hy) rfl rfl rfl rfl) ?_
  conv => whnf
  refine br.h h ?_ ?_ ?_
  · rfl
  · clear h; intro hb h; conv => whnf
    all_goals (cases h)
    all_goals exact rfl
  clear h; intro hb h; conv => whnf
  refine br.h h ?_ ?_ ?_
  · rfl
  · clear h; intro hb h; conv => whnf
    all_goals (cases h)
    all_goals exact rfl
  clear h; intro hb h; conv => whnf
  obtain ⟨xg, hy, h2⟩ := obind.elim h; clear h; have h := h2; clear h2
  refine sumK.introF [] (sumRun_of (aqs := [.v (.string ⟨⟨t.1⟩⟩)]) (ra_cons rfl ra_nil) (r86_eq hy) rfl rfl rfl rfl) ?_
  conv => whnf
  obtain ⟨xg1, hy, h2⟩ := obind.elim h; clear h; have h := h2; clear h2
  refine sumK.introF [] (sumRun_of (aqs := [.v (.string ⟨⟨t1.1⟩⟩)]) (ra_cons rfl ra_nil) (r86_eq hy) rfl rfl rfl rfl) ?_
  conv => whnf
  obtain ⟨t2, hy, h2⟩ := obind.elim h; clear h; have h := h2; clear h2
  refine sumK.introF [1] (sumRun_of (aqs := [.pt [.string ⟨⟨b.2.s⟩⟩, .bool b.2.made, .bool b.2.bad], .v (.int .i64 n2.1)]) (ra_cons rfl (ra_cons rfl ra_nil)) (r84_eq hy) rfl rfl rfl rfl) ?_
  conv => whnf
  obtain ⟨b1, hy, h2⟩ := obind.elim h; clear h; have h := h2; clear h2
  refine sumK.introF [1] (sumRun_of (aqs := [.pt [.string ⟨⟨t2.2.s⟩⟩, .bool t2.2.made, .bool t2.2.bad]]) (ra_cons rfl ra_nil) (r85_eq hy) rfl rfl rfl rfl) ?_
  conv => whnf
  refine br.h h ?_ ?_ ?_
  · rfl
  · clear h; intro hb h; conv => whnf
    all_goals (cases h)
    all_goals exact rfl
  clear h; intro hb h; conv => whnf
  all_goals (cases h)
  all_goals exact rfl
theorem ok53 (octet_New : (List UInt8) → Option octet_Reader) (octet_Reader_Num : octet_Reader → Int → Option (Int × octet_Reader)) (octet_Reader_Text : octet_Reader → Int → Option ((List UInt8) × octet_Reader)) (octet_Reader_Bad : octet_Reader → Option (Bool × octet_Reader)) (addr_Get : (List UInt8) → Option (api_Addr × Bool)) (hS : SumsOK Try.prog (aget (sums53 octet_New octet_Reader_Num octet_Reader_Text octet_Reader_Bad addr_Get))) : SumOK Try.prog 53 (s53 (ipsix_GetF octet_New octet_Reader_Num octet_Reader_Text octet_Reader_Bad addr_Get)) := by
  refine SumOK.of_leads tab_ok (fun ar r ha hr => ?_) ⟨Try.f53, rfl, by decide, rfl⟩
  simp only [s53] at ha hr
  unfold r53 at hr
  split at hr <;> try (cases hr; done)
  split at hr <;> cases hr
  rename_i x h
  refine ⟨_, rfl, (leads53 octet_New octet_Reader_Num octet_Reader_Text octet_Reader_Bad addr_Get hS _ x h).mono fun v H t hp => ?_⟩
  cases hp
  exact Res.val rfl trivial
def ipsix_Get : (List UInt8) → Option (ipsix_Head × (List UInt8) × Int) := ipsix_GetF octet_New octet_Reader_Num octet_Reader_Text octet_Reader_Bad addr_Get
theorem lift53 : SumOK Try.prog 53 (s53 ipsix_Get) := ok53 octet_New octet_Reader_Num octet_Reader_Text octet_Reader_Bad addr_Get (SumsOK.of_tab ⟨lift82, lift83, lift84, lift85, lift86, trivial⟩)
end Go.Vm.Code

namespace Go.Vm.Code
open Go Go.Vm Go.Proofs
set_option maxRecDepth 100000
set_option maxHeartbeats 4000000
set_option linter.unusedVariables false

/-! cloakroom/cloakroomref06.in -/
def R06_inF (n : Int) (most : Int) : Option Bool :=
  cond (decide (n ≥ 0))
    (
    some (decide (n ≤ most)))
    (
    some (false))
def post95 (x : Bool) (v : Value) (H : Hp) : Prop := v = .bool x
def r95 (g : Int → Int → Option Bool) : List SArg → Option SRes
  | [.v (.int .i64 a0_1), .v (.int .i64 a1_1)] => match g a0_1 a1_1 with | some x => some ⟨.bool x, [], []⟩ | none => none
  | _ => none
def s95 (g : Int → Int → Option Bool) : Summ := ⟨[.v, .v], r95 g⟩
theorem r95_eq {g : Int → Int → Option Bool} {a0_1 : Int} {a1_1 : Int} {x : Bool} (hx : g a0_1 a1_1 = some x) : (s95 g).run [.v (.int .i64 a0_1), .v (.int .i64 a1_1)] = some ⟨.bool x, [], []⟩ := by
  show r95 g [.v (.int .i64 a0_1), .v (.int .i64 a1_1)] = _
  simp only [r95, hx]
abbrev sums95 : List (Nat × Summ) := []
theorem leads95 (hS : SumsOK Try.prog (aget (sums95))) (n : Int) (most : Int) (res : Bool) (h : R06_inF n most = some res) :
    Leads Try.prog 95 0 ⟨⟨95, 12, [(0, .int .i64 n), (1, .int .i64 most)], [.code k95_3], [], false, none⟩, [], [], 0⟩ (fun v H _ => post95 res v H) := by
  unfold R06_inF at h
  refine ev_ok tab_ok hS true 3000 ?_
  conv => whnf
  refine br.h h ?_ ?_ ?_
  · rfl
  · clear h; intro hb h; conv => whnf
    all_goals (cases h)
    all_goals exact rfl
  clear h; intro hb h; conv => whnf
  all_goals (cases h)
  all_goals exact rfl
theorem ok95 (hS : SumsOK Try.prog (aget (sums95))) : SumOK Try.prog 95 (s95 (R06_inF)) := by
  refine SumOK.of_leads tab_ok (fun ar r ha hr => ?_) ⟨Try.f95, rfl, by decide, rfl⟩
  simp only [s95] at ha hr
  unfold r95 at hr
  split at hr <;> try (cases hr; done)
  split at hr <;> cases hr
  rename_i x h
  refine ⟨_, rfl, (leads95 hS _ _ x h).mono fun v H t hp => ?_⟩
  cases hp
  exact Res.val rfl trivial
def R06_in : Int → Int → Option Bool := R06_inF
theorem lift95 : SumOK Try.prog 95 (s95 R06_in) := ok95 (SumsOK.of_tab trivial)
end Go.Vm.Code

namespace Go.Vm.Code
open Go Go.Vm Go.Proofs
set_option maxRecDepth 100000
set_option maxHeartbeats 4000000
set_option linter.unusedVariables false

/-! cloakroom/cloakroomref06.Right -/
def R06_RightF (R06_in : Int → Int → Option Bool) (ha0 : ipsix_Head) : Option Bool :=
  (R06_in ha0.Class 255).bind fun i =>
  cond (i)
    (
    (R06_in ha0.Label 1048575).bind fun i1 =>
    cond (i1)
      (
      (R06_in ha0.Next 255).bind fun i2 =>
      cond (i2)
        (
        (R06_in ha0.Hop 255).bind fun i3 =>
        cond (i3)
          (
          cond (ha0.Src.V6)
            (
            some (ha0.Dst.V6))
            (
            some (false)))
          (
          some (false)))
        (
        some (false)))
      (
      some (false)))
    (
    some (false))
def post79 (x : Bool) (v : Value) (H : Hp) : Prop := v = .bool x
def r79 (g : ipsix_Head → Option Bool) : List SArg → Option SRes
  | [.v (.agg ⟨[.int .i64 a0_1, .int .i64 a0_2, .int .i64 a0_3, .int .i64 a0_4, .bool a0_5, .int .u64 a0_6, .int .u64 a0_7, .bool a0_8, .int .u64 a0_9, .int .u64 a0_10]⟩)] => match g (ipsix_Head.mk a0_1 a0_2 a0_3 a0_4 (api_Addr.mk a0_5 a0_6 a0_7) (api_Addr.mk a0_8 a0_9 a0_10)) with | some x => some ⟨.bool x, [], []⟩ | none => none
  | _ => none
def s79 (g : ipsix_Head → Option Bool) : Summ := ⟨[.v], r79 g⟩
theorem r79_eq {g : ipsix_Head → Option Bool} {a0_1 : Int} {a0_2 : Int} {a0_3 : Int} {a0_4 : Int} {a0_5 : Bool} {a0_6 : Int} {a0_7 : Int} {a0_8 : Bool} {a0_9 : Int} {a0_10 : Int} {x : Bool} (hx : g (ipsix_Head.mk a0_1 a0_2 a0_3 a0_4 (api_Addr.mk a0_5 a0_6 a0_7) (api_Addr.mk a0_8 a0_9 a0_10)) = some x) : (s79 g).run [.v (.agg ⟨[.int .i64 a0_1, .int .i64 a0_2, .int .i64 a0_3, .int .i64 a0_4, .bool a0_5, .int .u64 a0_6, .int .u64 a0_7, .bool a0_8, .int .u64 a0_9, .int .u64 a0_10]⟩)] = some ⟨.bool x, [], []⟩ := by
  show r79 g [.v (.agg ⟨[.int .i64 a0_1, .int .i64 a0_2, .int .i64 a0_3, .int .i64 a0_4, .bool a0_5, .int .u64 a0_6, .int .u64 a0_7, .bool a0_8, .int .u64 a0_9, .int .u64 a0_10]⟩)] = _
  simp only [r79, hx]
abbrev sums79 (R06_in : Int → Int → Option Bool) : List (Nat × Summ) := [(95, s95 R06_in)]
theorem leads79 (R06_in : Int → Int → Option Bool) (hS : SumsOK Try.prog (aget (sums79 R06_in))) (ha0 : ipsix_Head) (res : Bool) (h : R06_RightF R06_in ha0 = some res) :
    Leads Try.prog 79 0 ⟨⟨79, 31, [(0, .agg ⟨[.int .i64 ha0.Class, .int .i64 ha0.Label, .int .i64 ha0.Next, .int .i64 ha0.Hop, .bool ha0.Src.V6, .int .u64 ha0.Src.Hi, .int .u64 ha0.Src.Lo, .bool ha0.Dst.V6, .int .u64 ha0.Dst.Hi, .int .u64 ha0.Dst.Lo]⟩)], [.code k79_3], [], false, none⟩, [], [], 0⟩ (fun v H _ => post79 res v H) := by
  unfold R06_RightF at h
  refine ev_ok tab_ok hS true 3000 ?_
  conv => whnf
  obtain ⟨i, hy, h2⟩ := obind.elim h; clear h; have h := h2; clear h2
  refine sumK.introF [] (sumRun_of (aqs := [.v (.int .i64 ha0.Class), .v (.int .i64 255)]) (ra_cons rfl (ra_cons rfl ra_nil)) (r95_eq hy) rfl rfl rfl rfl) ?_
  conv => whnf
  refine br.h2 h ?_ ?_ ?_
  · rfl
  · clear h; intro hb h; conv => whnf
    all_goals (cases h)
    all_goals exact rfl
  clear h; intro hb h; conv => whnf
  obtain ⟨i1, hy, h2⟩ := obind.elim h; clear h; have h := h2; clear h2
  refine sumK.introF [] (sumRun_of (aqs := [.v (.int .i64 ha0.Label), .v (.int .i64 1048575)]) (ra_cons rfl (ra_cons rfl ra_nil)) (r95_eq hy) rfl rfl rfl rfl) ?_
  conv => whnf
  refine br.h2 h ?_ ?_ ?_
  · rfl
  · clear h; intro hb h; conv => whnf
    all_goals (cases h)
    all_goals exact rfl
  clear h; intro hb h; conv => whnf
  obtain ⟨i2, hy, h2⟩ := obind.elim h; clear h; have h := h2; clear h2
  refine sumK.introF [] (sumRun_of (aqs := [.v (.int .i64 ha0.Next), .v (.int .i64 255)]) (ra_cons rfl (ra_cons rfl ra_nil)) (r95_eq hy) rfl rfl rfl rfl) ?_
  conv => whnf
  refine br.h2 h ?_ ?_ ?_
  · rfl
  · clear h; intro hb h; conv => whnf
    all_goals (cases h)
    all_goals exact rfl
  clear h; intro hb h; conv => whnf
  obtain ⟨i3, hy, h2⟩ := obind.elim h; clear h; have h := h2; clear h2
  refine sumK.introF [] (sumRun_of (aqs := [.v (.int .i64 ha0.Hop), .v (.int .i64 255)]) (ra_cons rfl (ra_cons rfl ra_nil)) (r95_eq hy) rfl rfl rfl rfl) ?_
  conv => whnf
  refine br.h2 h ?_ ?_ ?_
  · rfl
  · clear h; intro hb h; conv => whnf
    all_goals (cases h)
    all_goals exact rfl
  clear h; intro hb h; conv => whnf
  refine br.h h ?_ ?_ ?_
  · rfl
  · clear h; intro hb h; conv => whnf
    all_goals (cases h)
    all_goals exact rfl
  clear h; intro hb h; conv => whnf
  all_goals (cases h)
  all_goals exact rfl
theorem ok79 (R06_in : Int → Int → Option Bool) (hS : SumsOK Try.prog (aget (sums79 R06_in))) : SumOK Try.prog 79 (s79 (R06_RightF R06_in)) := by
  refine SumOK.of_leads tab_ok (fun ar r ha hr => ?_) ⟨Try.f79, rfl, by decide, rfl⟩
  simp only [s79] at ha hr
  unfold r79 at hr
  split at hr <;> try (cases hr; done)
  split at hr <;> cases hr
  rename_i x h
  refine ⟨_, rfl, (leads79 R06_in hS _ x h).mono fun v H t hp => ?_⟩
  cases hp
  exact Res.val rfl trivial
def R06_Right : ipsix_Head → Option Bool := R06_RightF R06_in
theorem lift79 : SumOK Try.prog 79 (s79 R06_Right) := ok79 R06_in (SumsOK.of_tab ⟨lift95, trivial⟩)
end Go.Vm.Code

namespace Go.Vm.Code
open Go Go.Vm Go.Proofs
set_option maxRecDepth 100000
set_option maxHeartbeats 4000000
set_option linter.unusedVariables false

/-! cloakroom/cloakroomref06.num -/
def R06_numF (R02_Put : Int → Int → Option (List UInt8)) (n : Int) (k : Int) : Option (List UInt8) :=
  (R02_Put (wI .u64 n) k).bind fun p =>
  some (p)
def post80 (x : List UInt8) (v : Value) (H : Hp) : Prop := v = .string ⟨⟨x⟩⟩
def r80 (g : Int → Int → Option (List UInt8)) : List SArg → Option SRes
  | [.v (.int .i64 a0_1), .v (.int .i64 a1_1)] => match g a0_1 a1_1 with | some x => some ⟨.string ⟨⟨x⟩⟩, [], []⟩ | none => none
  | _ => none
def s80 (g : Int → Int → Option (List UInt8)) : Summ := ⟨[.v, .v], r80 g⟩
theorem r80_eq {g : Int → Int → Option (List UInt8)} {a0_1 : Int} {a1_1 : Int} {x : List UInt8} (hx : g a0_1 a1_1 = some x) : (s80 g).run [.v (.int .i64 a0_1), .v (.int .i64 a1_1)] = some ⟨.string ⟨⟨x⟩⟩, [], []⟩ := by
  show r80 g [.v (.int .i64 a0_1), .v (.int .i64 a1_1)] = _
  simp only [r80, hx]
abbrev sums80 (R02_Put : Int → Int → Option (List UInt8)) : List (Nat × Summ) := [(76, s76 R02_Put)]
theorem leads80 (R02_Put : Int → Int → Option (List UInt8)) (hS : SumsOK Try.prog (aget (sums80 R02_Put))) (n : Int) (k : Int) (res : List UInt8) (h : R06_numF R02_Put n k = some res) :
    Leads Try.prog 80 0 ⟨⟨80, 9, [(0, .int .i64 n), (1, .int .i64 k)], [.code k80_3], [], false, none⟩, [], [], 0⟩ (fun v H _ => post80 res v H) := by
  unfold R06_numF at h
  refine ev_ok tab_ok hS true 3000 ?_
  conv => whnf
  obtain ⟨p, hy, h2⟩ := obind.elim h; clear h; have h := h2; clear h2
  refine sumK.introF [] (sumRun_of (aqs := [.v (.int .u64 (wI .u64 n)), .v (.int .i64 k)]) (ra_cons rfl (ra_cons rfl ra_nil)) (r76_eq hy) rfl rfl rfl rfl) ?_
  conv => whnf
  all_goals (cases h)
  all_goals exact rfl
theorem ok80 (R02_Put : Int → Int → Option (List UInt8)) (hS : SumsOK Try.prog (aget (sums80 R02_Put))) : SumOK Try.prog 80 (s80 (R06_numF R02_Put)) := by
  refine SumOK.of_leads tab_ok (fun ar r ha hr => ?_) ⟨Try.f80, rfl, by decide, rfl⟩
  simp only [s80] at ha hr
  unfold r80 at hr
  split at hr <;> try (cases hr; done)
  split at hr <;> cases hr
  rename_i x h
  refine ⟨_, rfl, (leads80 R02_Put hS _ _ x h).mono fun v H t hp => ?_⟩
  cases hp
  exact Res.val rfl trivial
def R06_num : Int → Int → Option (List UInt8) := R06_numF R02_Put
theorem lift80 : SumOK Try.prog 80 (s80 R06_num) := ok80 R02_Put (SumsOK.of_tab ⟨lift76, trivial⟩)
end Go.Vm.Code

namespace Go.Vm.Code
open Go Go.Vm Go.Proofs
set_option maxRecDepth 100000
set_option maxHeartbeats 4000000
set_option linter.unusedVariables false

/-! cloakroom/cloakroomref04.Right -/
def R04_RightF (a : api_Addr) : Option Bool :=
  cond (a.V6)
    (
    some (true))
    (
    cond (a.Hi == 0)
      (
      some (decide (a.Lo < 4294967296)))
      (
      some (false)))
def post96 (x : Bool) (v : Value) (H : Hp) : Prop := v = .bool x
def r96 (g : api_Addr → Option Bool) : List SArg → Option SRes
  | [.v (.agg ⟨[.bool a0_1, .int .u64 a0_2, .int .u64 a0_3]⟩)] => match g (api_Addr.mk a0_1 a0_2 a0_3) with | some x => some ⟨.bool x, [], []⟩ | none => none
  | _ => none
def s96 (g : api_Addr → Option Bool) : Summ := ⟨[.v], r96 g⟩
theorem r96_eq {g : api_Addr → Option Bool} {a0_1 : Bool} {a0_2 : Int} {a0_3 : Int} {x : Bool} (hx : g (api_Addr.mk a0_1 a0_2 a0_3) = some x) : (s96 g).run [.v (.agg ⟨[.bool a0_1, .int .u64 a0_2, .int .u64 a0_3]⟩)] = some ⟨.bool x, [], []⟩ := by
  show r96 g [.v (.agg ⟨[.bool a0_1, .int .u64 a0_2, .int .u64 a0_3]⟩)] = _
  simp only [r96, hx]
abbrev sums96 : List (Nat × Summ) := []
theorem leads96 (hS : SumsOK Try.prog (aget (sums96))) (a : api_Addr) (res : Bool) (h : R04_RightF a = some res) :
    Leads Try.prog 96 0 ⟨⟨96, 15, [(0, .agg ⟨[.bool a.V6, .int .u64 a.Hi, .int .u64 a.Lo]⟩)], [.code k96_3], [], false, none⟩, [], [], 0⟩ (fun v H _ => post96 res v H) := by
  unfold R04_RightF at h
  refine ev_ok tab_ok hS true 3000 ?_
  conv => whnf
  refine br.h h ?_ ?_ ?_
  · rfl
  · clear h; intro hb h; conv => whnf
    all_goals (cases h)
    all_goals exact rfl
  clear h; intro hb h; conv => whnf
  refine br.h h ?_ ?_ ?_
  · rfl
  · clear h; intro hb h; conv => whnf
    all_goals (cases h)
    all_goals exact rfl
  clear h; intro hb h; conv => whnf
  all_goals (cases h)
  all_goals exact rfl
theorem ok96 (hS : SumsOK Try.prog (aget (sums96))) : SumOK Try.prog 96 (s96 (R04_RightF)) := by
  refine SumOK.of_leads tab_ok (fun ar r ha hr => ?_) ⟨Try.f96, rfl, by decide, rfl⟩
  simp only [s96] at ha hr
  unfold r96 at hr
  split at hr <;> try (cases hr; done)
  split at hr <;> cases hr
  rename_i x h
  refine ⟨_, rfl, (leads96 hS _ x h).mono fun v H t hp => ?_⟩
  cases hp
  exact Res.val rfl trivial
def R04_Right : api_Addr → Option Bool := R04_RightF
theorem lift96 : SumOK Try.prog 96 (s96 R04_Right) := ok96 (SumsOK.of_tab trivial)
end Go.Vm.Code

namespace Go.Vm.Code
open Go Go.Vm Go.Proofs
set_option maxRecDepth 100000
set_option maxHeartbeats 4000000
set_option linter.unusedVariables false

/-! cloakroom/cloakroomref04.Put -/
def R04_PutF (R02_Put : Int → Int → Option (List UInt8)) (R04_Right : api_Addr → Option Bool) (a : api_Addr) : Option (List UInt8) :=
  (R04_Right a).bind fun xr =>
  cond (!xr)
    (
    some ([]))
    (
    cond (a.V6)
      (
      (R02_Put a.Hi 8).bind fun p =>
      (R02_Put a.Lo 8).bind fun p1 =>
      oreq (decide (p.length + p1.length < 2 ^ 63)) <|
      some (p ++ p1))
      (
      (R02_Put a.Lo 4).bind fun p2 =>
      some (p2)))
def post81 (x : List UInt8) (v : Value) (H : Hp) : Prop := v = .string ⟨⟨x⟩⟩
def r81 (g : api_Addr → Option (List UInt8)) : List SArg → Option SRes
  | [.v (.agg ⟨[.bool a0_1, .int .u64 a0_2, .int .u64 a0_3]⟩)] => match g (api_Addr.mk a0_1 a0_2 a0_3) with | some x => some ⟨.string ⟨⟨x⟩⟩, [], []⟩ | none => none
  | _ => none
def s81 (g : api_Addr → Option (List UInt8)) : Summ := ⟨[.v], r81 g⟩
theorem r81_eq {g : api_Addr → Option (List UInt8)} {a0_1 : Bool} {a0_2 : Int} {a0_3 : Int} {x : List UInt8} (hx : g (api_Addr.mk a0_1 a0_2 a0_3) = some x) : (s81 g).run [.v (.agg ⟨[.bool a0_1, .int .u64 a0_2, .int .u64 a0_3]⟩)] = some ⟨.string ⟨⟨x⟩⟩, [], []⟩ := by
  show r81 g [.v (.agg ⟨[.bool a0_1, .int .u64 a0_2, .int .u64 a0_3]⟩)] = _
  simp only [r81, hx]
abbrev sums81 (R02_Put : Int → Int → Option (List UInt8)) (R04_Right : api_Addr → Option Bool) : List (Nat × Summ) := [(76, s76 R02_Put), (96, s96 R04_Right)]
theorem leads81 (R02_Put : Int → Int → Option (List UInt8)) (R04_Right : api_Addr → Option Bool) (hS : SumsOK Try.prog (aget (sums81 R02_Put R04_Right))) (a : api_Addr) (res : List UInt8) (h : R04_PutF R02_Put R04_Right a = some res) :
    Leads Try.prog 81 0 ⟨⟨81, 18, [(0, .agg ⟨[.bool a.V6, .int .u64 a.Hi, .int .u64 a.Lo]⟩)], [.code k81_15], [], false, none⟩, [], [], 0⟩ (fun v H _ => post81 res v H) := by
  unfold R04_PutF at h
  refine ev_ok tab_ok hS true 3000 ?_
  conv => whnf
  obtain ⟨xr, hy, h2⟩ := obind.elim h; clear h; have h := h2; clear h2
  refine sumK.introF [] (sumRun_of (aqs := [.v (.agg ⟨[.bool a.V6, .int .u64 a.Hi, .int .u64 a.Lo]⟩)]) (ra_cons rfl ra_nil) (r96_eq hy) rfl rfl rfl rfl) ?_
  conv => whnf
  refine br.h h ?_ ?_ ?_
  · rfl
  · clear h; intro hb h; conv => whnf
    all_goals (cases h)
    all_goals exact rfl
  clear h; intro hb h; conv => whnf
  refine br.h2 h ?_ ?_ ?_
  · rfl
  · clear h; intro hb h; conv => whnf
    obtain ⟨p2, hy, h2⟩ := obind.elim h; clear h; have h := h2; clear h2
    refine sumK.introF [] (sumRun_of (aqs := [.v (.int .u64 a.Lo), .v (.int .i64 4)]) (ra_cons rfl (ra_cons rfl ra_nil)) (r76_eq hy) rfl rfl rfl rfl) ?_
    conv => whnf
    all_goals (cases h)
    all_goals exact rfl
  clear h; intro hb h; conv => whnf
  obtain ⟨p, hy, h2⟩ := obind.elim h; clear h; have h := h2; clear h2
  refine sumK.introF [] (sumRun_of (aqs := [.v (.int .u64 a.Hi), .v (.int .i64 8)]) (ra_cons rfl (ra_cons rfl ra_nil)) (r76_eq hy) rfl rfl rfl rfl) ?_
  conv => whnf
  obtain ⟨p1, hy, h2⟩ := obind.elim h; clear h; have h := h2; clear h2
  refine sumK.introF [] (sumRun_of (aqs := [.v (.int .u64 a.Lo), .v (.int .i64 8)]) (ra_cons rfl (ra_cons rfl ra_nil)) (r76_eq hy) rfl rfl rfl rfl) ?_
  conv => whnf
  replace h := oreq.elim h; have hb := h.1; replace h := h.2
  first | (refine req.intro hb ?_; conv => whnf) | skip
  all_goals (cases h)
  all_goals exact rfl
theorem ok81 (R02_Put : Int → Int → Option (List UInt8)) (R04_Right : api_Addr → Option Bool) (hS : SumsOK Try.prog (aget (sums81 R02_Put R04_Right))) : SumOK Try.prog 81 (s81 (R04_PutF R02_Put R04_Right)) := by
  refine SumOK.of_leads tab_ok (fun ar r ha hr => ?_) ⟨Try.f81, rfl, by decide, rfl⟩
  simp only [s81] at ha hr
  unfold r81 at hr
  split at hr <;> try (cases hr; done)
  split at hr <;> cases hr
  rename_i x h
  refine ⟨_, rfl, (leads81 R02_Put R04_Right hS _ x h).mono fun v H t hp => ?_⟩
  cases hp
  exact Res.val rfl trivial
def R04_Put : api_Addr → Option (List UInt8) := R04_PutF R02_Put R04_Right
theorem lift81 : SumOK Try.prog 81 (s81 R04_Put) := ok81 R02_Put R04_Right (SumsOK.of_tab ⟨lift76, lift96, trivial⟩)
end Go.Vm.Code

namespace Go.Vm.Code
open Go Go.Vm Go.Proofs
set_option maxRecDepth 100000
set_option maxHeartbeats 4000000
set_option linter.unusedVariables false

/-! cloakroom/cloakroomref06.Put -/
def R06_PutF (R06_Right : ipsix_Head → Option Bool) (R06_num : Int → Int → Option (List UInt8)) (R04_Put : api_Addr → Option (List UInt8)) (ha0 : ipsix_Head) (payload : List UInt8) : Option ((List UInt8) × Int) :=
  (R06_Right ha0).bind fun xr =>
  cond (!xr)
    (
    some (([], 1)))
    (
    cond (decide ((payload.length : Int) > 65535))
      (
      some (([], 5)))
      (
      let t := wI .i64 (1610612736 + (wI .i64 (ha0.Class * 1048576)))
      (R06_num (wI .i64 (t + ha0.Label)) 4).bind fun n =>
      (R06_num (payload.length : Int) 2).bind fun n1 =>
      oreq (decide (n.length + n1.length < 2 ^ 63)) <|
      (R06_num ha0.Next 1).bind fun n2 =>
      oreq (decide ((n ++ n1).length + n2.length < 2 ^ 63)) <|
      (R06_num ha0.Hop 1).bind fun n3 =>
      oreq (decide (((n ++ n1) ++ n2).length + n3.length < 2 ^ 63)) <|
      (R04_Put ha0.Src).bind fun p =>
      oreq (decide ((((n ++ n1) ++ n2) ++ n3).length + p.length < 2 ^ 63)) <|
      (R04_Put ha0.Dst).bind fun p1 =>
      oreq (decide (((((n ++ n1) ++ n2) ++ n3) ++ p).length + p1.length < 2 ^ 63)) <|
      oreq (decide ((((((n ++ n1) ++ n2) ++ n3) ++ p) ++ p1).length + payload.length < 2 ^ 63)) <|
      let t1 := (((((n ++ n1) ++ n2) ++ n3) ++ p) ++ p1) ++ payload
      some ((t1, 0))))
def post52 (x : (List UInt8) × Int) (v : Value) (H : Hp) : Prop := v = .tuple ⟨[.string ⟨⟨x.1⟩⟩, .int .i64 x.2]⟩
def r52 (g : ipsix_Head → (List UInt8) → Option ((List UInt8) × Int)) : List SArg → Option SRes
  | [.v (.agg ⟨[.int .i64 a0_1, .int .i64 a0_2, .int .i64 a0_3, .int .i64 a0_4, .bool a0_5, .int .u64 a0_6, .int .u64 a0_7, .bool a0_8, .int .u64 a0_9, .int .u64 a0_10]⟩), .v (.string ⟨⟨a1_1⟩⟩)] => match g (ipsix_Head.mk a0_1 a0_2 a0_3 a0_4 (api_Addr.mk a0_5 a0_6 a0_7) (api_Addr.mk a0_8 a0_9 a0_10)) a1_1 with | some x => some ⟨.tuple ⟨[.string ⟨⟨x.1⟩⟩, .int .i64 x.2]⟩, [], []⟩ | none => none
  | _ => none
def s52 (g : ipsix_Head → (List UInt8) → Option ((List UInt8) × Int)) : Summ := ⟨[.v, .v], r52 g⟩
theorem r52_eq {g : ipsix_Head → (List UInt8) → Option ((List UInt8) × Int)} {a0_1 : Int} {a0_2 : Int} {a0_3 : Int} {a0_4 : Int} {a0_5 : Bool} {a0_6 : Int} {a0_7 : Int} {a0_8 : Bool} {a0_9 : Int} {a0_10 : Int} {a1_1 : List UInt8} {x : (List UInt8) × Int} (hx : g (ipsix_Head.mk a0_1 a0_2 a0_3 a0_4 (api_Addr.mk a0_5 a0_6 a0_7) (api_Addr.mk a0_8 a0_9 a0_10)) a1_1 = some x) : (s52 g).run [.v (.agg ⟨[.int .i64 a0_1, .int .i64 a0_2, .int .i64 a0_3, .int .i64 a0_4, .bool a0_5, .int .u64 a0_6, .int .u64 a0_7, .bool a0_8, .int .u64 a0_9, .int .u64 a0_10]⟩), .v (.string ⟨⟨a1_1⟩⟩)] = some ⟨.tuple ⟨[.string ⟨⟨x.1⟩⟩, .int .i64 x.2]⟩, [], []⟩ := by
  show r52 g [.v (.agg ⟨[.int .i64 a0_1, .int .i64 a0_2, .int .i64 a0_3, .int .i64 a0_4, .bool a0_5, .int .u64 a0_6, .int .u64 a0_7, .bool a0_8, .int .u64 a0_9, .int .u64 a0_10]⟩), .v (.string ⟨⟨a1_1⟩⟩)] = _
  simp only [r52, hx]
abbrev sums52 (R06_Right : ipsix_Head → Option Bool) (R06_num : Int → Int → Option (List UInt8)) (R04_Put : api_Addr → Option (List UInt8)) : List (Nat × Summ) := [(79, s79 R06_Right), (80, s80 R06_num), (81, s81 R04_Put)]
theorem leads52 (R06_Right : ipsix_Head → Option Bool) (R06_num : Int → Int → Option (List UInt8)) (R04_Put : api_Addr → Option (List UInt8)) (hS : SumsOK Try.prog (aget (sums52 R06_Right R06_num R04_Put))) (ha0 : ipsix_Head) (payload : List UInt8) (res : (List UInt8) × Int) (h : R06_PutF R06_Right R06_num R04_Put ha0 payload = some res) :
    Leads Try.prog 52 0 ⟨⟨52, 42, [(0, .agg ⟨[.int .i64 ha0.Class, .int .i64 ha0.Label, .int .i64 ha0.Next, .int .i64 ha0.Hop, .bool ha0.Src.V6, .int .u64 ha0.Src.Hi, .int .u64 ha0.Src.Lo, .bool ha0.Dst.V6, .int .u64 ha0.Dst.Hi, .int .u64 ha0.Dst.Lo]⟩), (1, .string ⟨⟨payload⟩⟩)], [.code k52_15], [], false, none⟩, [], [], 0⟩ (fun v H _ => post52 res v H) := by
  unfold R06_PutF at h
  refine ev_ok tab_ok hS true 3000 ?_
  conv => whnf
  obtain ⟨xr, hy, h2⟩ := obind.elim h; clear h; have h := h2; clear h2
  refine sumK.introF [] (sumRun_of (aqs := [.v (.agg ⟨[.int .i64 ha0.Class, .int .i64 ha0.Label, .int .i64 ha0.Next, .int .i64 ha0.Hop, .bool ha0.Src.V6, .int .u64 ha0.Src.Hi, .int .u64 ha0.Src.Lo, .bool ha0.Dst.V6, .int .u64 ha0.Dst.Hi, .int .u64 ha0.Dst.Lo]⟩)]) (ra_cons rfl ra_nil) (r79_eq hy) rfl rfl rfl rfl) ?_
  conv => whnf
  refine br.h h ?_ ?_ ?_
  · rfl
  · clear h; intro hb h; conv => whnf
    all_goals (cases h)
    all_goals exact rfl
  clear h; intro hb h; conv => whnf
  refine br.h h ?_ ?_ ?_
  · rfl
  · clear h; intro hb h; conv => whnf
    all_goals (cases h)
    all_goals exact rfl
  clear h; intro hb h; conv => whnf
  let t : Int := wI .i64 (1610612736 + (wI .i64 (ha0.Class * 1048576)))
  obtain ⟨n, hy, h2⟩ := obind.elim h; clear h; have h := h2; clear h2
  refine sumK.introF [] (sumRun_of (aqs := [.v (.int .i64 (wI .i64 (t + ha0.Label))), .v (.int .i64 4)]) (ra_cons rfl (ra_cons rfl ra_nil)) (r80_eq hy) rfl rfl rfl rfl) ?_
  conv => whnf
  obtain ⟨n1, hy, h2⟩ := obind.elim h; clear h; have h := h2; clear h2
  refine sumK.introF [] (sumRun_of (aqs := [.v (.int .i64 (payload.length : Int)), .v (.int .i64 2)]) (ra_cons rfl (ra_cons rfl ra_nil)) (r80_eq hy) rfl rfl rfl rfl) ?_
  conv => whnf
  replace h := oreq.elim h; have hb := h.1; replace h := h.2
  first | (refine req.intro hb ?_; conv => whnf) | skip
  obtain ⟨n2, hy, h2⟩ := obind.elim h; clear h; have h := h2; clear h2
  refine sumK.introF [] (sumRun_of (aqs := [.v (.int .i64 ha0.Next), .v (.int .i64 1)]) (ra_cons rfl (ra_cons rfl ra_nil)) (r80_eq hy) rfl rfl rfl rfl) ?_
  conv => whnf
  replace h := oreq.elim h; have hb := h.1; replace h := h.2
  first | (refine req.intro hb ?_; conv => whnf) | skip
  obtain ⟨n3, hy, h2⟩ := obind.elim h; clear h; have h := h2; clear h2
  refine sumK.introF [] (sumRun_of (aqs := [.v (.int .i64 ha0.Hop), .v (.int .i64 1)]) (ra_cons rfl (ra_cons rfl ra_nil)) (r80_eq hy) rfl rfl rfl rfl) ?_
  conv => whnf
  replace h := oreq.elim h; have hb := h.1; replace h := h.2
  first | (refine req.intro hb ?_; conv => whnf) | skip
  obtain ⟨p, hy, h2⟩ := obind.elim h; clear h; have h := h2; clear h2
  refine sumK.introF [] (sumRun_of (aqs := [.v (.agg ⟨[.bool ha0.Src.V6, .int .u64 ha0.Src.Hi, .int .u64 ha0.Src.Lo]⟩)]) (ra_cons rfl ra_nil) (r81_eq hy) rfl rfl rfl rfl) ?_
  conv => whnf
  replace h := oreq.elim h; have hb := h.1; replace h := h.2
  first | (refine req.intro hb ?_; conv => whnf) | skip
  obtain ⟨p1, hy, h2⟩ := obind.elim h; clear h; have h := h2; clear h2
  refine sumK.introF [] (sumRun_of (aqs := [.v (.agg ⟨[.bool ha0.Dst.V6, .int .u64 ha0.Dst.Hi, .int .u64 ha0.Dst.Lo]⟩)]) (ra_cons rfl ra_nil) (r81_eq hy) rfl rfl rfl rfl) ?_
  conv => whnf
  replace h := oreq.elim h; have hb := h.1; replace h := h.2
  first | (refine req.intro hb ?_; conv => whnf) | skip
  replace h := oreq.elim h; have hb := h.1; replace h := h.2
  first | (refine req.intro hb ?_; conv => whnf) | skip
  let t1 : List UInt8 := (((((n ++ n1) ++ n2) ++ n3) ++ p) ++ p1) ++ payload
  all_goals (cases h)
  all_goals exact rfl
theorem ok52 (R06_Right : ipsix_Head → Option Bool) (R06_num : Int → Int → Option (List UInt8)) (R04_Put : api_Addr → Option (List UInt8)) (hS : SumsOK Try.prog (aget (sums52 R06_Right R06_num R04_Put))) : SumOK Try.prog 52 (s52 (R06_PutF R06_Right R06_num R04_Put)) := by
  refine SumOK.of_leads tab_ok (fun ar r ha hr => ?_) ⟨Try.f52, rfl, by decide, rfl⟩
  simp only [s52] at ha hr
  unfold r52 at hr
  split at hr <;> try (cases hr; done)
  split at hr <;> cases hr
  rename_i x h
  refine ⟨_, rfl, (leads52 R06_Right R06_num R04_Put hS _ _ x h).mono fun v H t hp => ?_⟩
  cases hp
  exact Res.val rfl trivial
def R06_Put : ipsix_Head → (List UInt8) → Option ((List UInt8) × Int) := R06_PutF R06_Right R06_num R04_Put
theorem lift52 : SumOK Try.prog 52 (s52 R06_Put) := ok52 R06_Right R06_num R04_Put (SumsOK.of_tab ⟨lift79, lift80, lift81, trivial⟩)
end Go.Vm.Code

namespace Go.Vm.Code
open Go Go.Vm Go.Proofs
set_option maxRecDepth 100000
set_option maxHeartbeats 4000000
set_option linter.unusedVariables false

/-! cloakroom/cloakroomref04.Get -/
def R04_GetF (R02_Get : (List UInt8) → Int → Int → Option (Int × Bool)) (s : List UInt8) : Option (api_Addr × Bool) :=
  cond ((s.length : Int) == 4)
    (
    (R02_Get s 0 4).bind fun xg =>
    some ((api_Addr.mk false 0 xg.1, true)))
    (
    cond ((s.length : Int) == 16)
      (
      (R02_Get s 0 8).bind fun xg1 =>
      (R02_Get s 8 8).bind fun xg2 =>
      some ((api_Addr.mk true xg1.1 xg2.1, true)))
      (
      some ((api_Addr.mk false 0 0, false))))
def post88 (x : api_Addr × Bool) (v : Value) (H : Hp) : Prop := v = .tuple ⟨[.agg ⟨[.bool x.1.V6, .int .u64 x.1.Hi, .int .u64 x.1.Lo]⟩, .bool x.2]⟩
def r88 (g : (List UInt8) → Option (api_Addr × Bool)) : List SArg → Option SRes
  | [.v (.string ⟨⟨a0_1⟩⟩)] => match g a0_1 with | some x => some ⟨.tuple ⟨[.agg ⟨[.bool x.1.V6, .int .u64 x.1.Hi, .int .u64 x.1.Lo]⟩, .bool x.2]⟩, [], []⟩ | none => none
  | _ => none
def s88 (g : (List UInt8) → Option (api_Addr × Bool)) : Summ := ⟨[.v], r88 g⟩
theorem r88_eq {g : (List UInt8) → Option (api_Addr × Bool)} {a0_1 : List UInt8} {x : api_Addr × Bool} (hx : g a0_1 = some x) : (s88 g).run [.v (.string ⟨⟨a0_1⟩⟩)] = some ⟨.tuple ⟨[.agg ⟨[.bool x.1.V6, .int .u64 x.1.Hi, .int .u64 x.1.Lo]⟩, .bool x.2]⟩, [], []⟩ := by
  show r88 g [.v (.string ⟨⟨a0_1⟩⟩)] = _
  simp only [r88, hx]
abbrev sums88 (R02_Get : (List UInt8) → Int → Int → Option (Int × Bool)) : List (Nat × Summ) := [(75, s75 R02_Get)]
theorem leads88 (R02_Get : (List UInt8) → Int → Int → Option (Int × Bool)) (hS : SumsOK Try.prog (aget (sums88 R02_Get))) (s : List UInt8) (res : api_Addr × Bool) (h : R04_GetF R02_Get s = some res) :
    Leads Try.prog 88 0 ⟨⟨88, 37, [(0, .string ⟨⟨s⟩⟩)], [.code k88_21], [], false, none⟩, [], [], 0⟩ (fun v H _ => post88 res v H) := by
  unfold R04_GetF at h
  refine ev_ok tab_ok hS true 3000 ?_
  conv => whnf
  refine br.h h ?_ ?_ ?_
  · rfl
  · clear h; intro hb h; conv => whnf
    obtain ⟨xg, hy, h2⟩ := obind.elim h; clear h; have h := h2; clear h2
    refine sumK.introF [] (sumRun_of (aqs := [.v (.string ⟨⟨s⟩⟩), .v (.int .i64 0), .v (.int .i64 4)]) (ra_cons rfl (ra_cons rfl (ra_cons rfl ra_nil))) (r75_eq hy) rfl rfl rfl rfl) ?_
    conv => whnf
    all_goals (cases h)
    all_goals exact rfl
  clear h; intro hb h; conv => whnf
  refine br.h2 h ?_ ?_ ?_
  · rfl
  · clear h; intro hb h; conv => whnf
    all_goals (cases h)
    all_goals exact rfl
  clear h; intro hb h; conv => whnf
  obtain ⟨xg1, hy, h2⟩ := obind.elim h; clear h; have h := h2; clear h2
  refine sumK.introF [] (sumRun_of (aqs := [.v (.string ⟨⟨s⟩⟩), .v (.int .i64 0), .v (.int .i64 8)]) (ra_cons rfl (ra_cons rfl (ra_cons rfl ra_nil))) (r75_eq hy) rfl rfl rfl rfl) ?_
  conv => whnf
  obtain ⟨xg2, hy, h2⟩ := obind.elim h; clear h; have h := h2; clear h2
  refine sumK.introF [] (sumRun_of (aqs := [.v (.string ⟨⟨s⟩⟩), .v (.int .i64 8), .v (.int .i64 8)]) (ra_cons rfl (ra_cons rfl (ra_cons rfl ra_nil))) (r75_eq hy) rfl rfl rfl rfl) ?_
  conv => whnf
  all_goals (cases h)
  all_goals exact rfl
theorem ok88 (R02_Get : (List UInt8) → Int → Int → Option (Int × Bool)) (hS : SumsOK Try.prog (aget (sums88 R02_Get))) : SumOK Try.prog 88 (s88 (R04_GetF R02_Get)) := by
  refine SumOK.of_leads tab_ok (fun ar r ha hr => ?_) ⟨Try.f88, rfl, by decide, rfl⟩
  simp only [s88] at ha hr
  unfold r88 at hr
  split at hr <;> try (cases hr; done)
  split at hr <;> cases hr
  rename_i x h
  refine ⟨_, rfl, (leads88 R02_Get hS _ x h).mono fun v H t hp => ?_⟩
  cases hp
  exact Res.val rfl trivial
def R04_Get : (List UInt8) → Option (api_Addr × Bool) := R04_GetF R02_Get
theorem lift88 : SumOK Try.prog 88 (s88 R04_Get) := ok88 R02_Get (SumsOK.of_tab ⟨lift75, trivial⟩)
end Go.Vm.Code

namespace Go.Vm.Code
open Go Go.Vm Go.Proofs
set_option maxRecDepth 100000
set_option maxHeartbeats 4000000
set_option linter.unusedVariables false

/-! cloakroom/cloakroomref06.Get -/
def R06_GetF (R02_Must : (List UInt8) → Int → Int → Option Int) (R04_Get : (List UInt8) → Option (api_Addr × Bool)) (s : List UInt8) : Option (ipsix_Head × (List UInt8) × Int) :=
  cond (decide ((s.length : Int) < 40))
    (
    some ((ipsix_Head.mk 0 0 0 0 (api_Addr.mk false 0 0) (api_Addr.mk false 0 0), [], 2)))
    (
    (R02_Must s 0 4).bind fun m =>
    (R02_Must s 4 2).bind fun m1 =>
    cond ((wI .i64 (m.tdiv 268435456)) != 6)
      (
      some ((ipsix_Head.mk 0 0 0 0 (api_Addr.mk false 0 0) (api_Addr.mk false 0 0), [], 3)))
      (
      let t := decide ((wI .i64 ((s.length : Int) - 40)) < m1)
      cond (t)
        (
        some ((ipsix_Head.mk 0 0 0 0 (api_Addr.mk false 0 0) (api_Addr.mk false 0 0), [], 2)))
        (
        oreq (decide ((0 : Int) ≤ (24 : Int) ∧ (24 : Int) ≤ (s.length : Int) ∧ (0 : Int) ≤ (8 : Int) ∧ (8 : Int) ≤ (24 : Int))) <|
        (R04_Get ((s.drop 8).take 16)).bind fun xg =>
        oreq (decide ((0 : Int) ≤ (40 : Int) ∧ (40 : Int) ≤ (s.length : Int) ∧ (0 : Int) ≤ (24 : Int) ∧ (24 : Int) ≤ (40 : Int))) <|
        (R04_Get ((s.drop 24).take 16)).bind fun xg1 =>
        (s[6]?).bind fun (b : UInt8) =>
        (s[7]?).bind fun (b1 : UInt8) =>
        oreq (decide ((0 : Int) ≤ (wI .i64 (40 + m1)) ∧ (wI .i64 (40 + m1)) ≤ (s.length : Int) ∧ (0 : Int) ≤ (40 : Int) ∧ (40 : Int) ≤ ((wI .i64 (40 + m1)).toNat : Int))) <|
        let t1 := (s.drop 40).take ((wI .i64 (40 + m1)).toNat - 40)
        some ((ipsix_Head.mk ((wI .i64 (m.tdiv 1048576)).tmod 256) (m.tmod 1048576) (wI .i64 (b.toNat : Int)) (wI .i64 (b1.toNat : Int)) xg.1 xg1.1, t1, 0)))))
def post54 (x : ipsix_Head × (List UInt8) × Int) (v : Value) (H : Hp) : Prop := v = .tuple ⟨[.agg ⟨[.int .i64 x.1.Class, .int .i64 x.1.Label, .int .i64 x.1.Next, .int .i64 x.1.Hop, .bool x.1.Src.V6, .int .u64 x.1.Src.Hi, .int .u64 x.1.Src.Lo, .bool x.1.Dst.V6, .int .u64 x.1.Dst.Hi, .int .u64 x.1.Dst.Lo]⟩, .string ⟨⟨x.2.1⟩⟩, .int .i64 x.2.2]⟩
def r54 (g : (List UInt8) → Option (ipsix_Head × (List UInt8) × Int)) : List SArg → Option SRes
  | [.v (.string ⟨⟨a0_1⟩⟩)] => match g a0_1 with | some x => some ⟨.tuple ⟨[.agg ⟨[.int .i64 x.1.Class, .int .i64 x.1.Label, .int .i64 x.1.Next, .int .i64 x.1.Hop, .bool x.1.Src.V6, .int .u64 x.1.Src.Hi, .int .u64 x.1.Src.Lo, .bool x.1.Dst.V6, .int .u64 x.1.Dst.Hi, .int .u64 x.1.Dst.Lo]⟩, .string ⟨⟨x.2.1⟩⟩, .int .i64 x.2.2]⟩, [], []⟩ | none => none
  | _ => none
def s54 (g : (List UInt8) → Option (ipsix_Head × (List UInt8) × Int)) : Summ := ⟨[.v], r54 g⟩
theorem r54_eq {g : (List UInt8) → Option (ipsix_Head × (List UInt8) × Int)} {a0_1 : List UInt8} {x : ipsix_Head × (List UInt8) × Int} (hx : g a0_1 = some x) : (s54 g).run [.v (.string ⟨⟨a0_1⟩⟩)] = some ⟨.tuple ⟨[.agg ⟨[.int .i64 x.1.Class, .int .i64 x.1.Label, .int .i64 x.1.Next, .int .i64 x.1.Hop, .bool x.1.Src.V6, .int .u64 x.1.Src.Hi, .int .u64 x.1.Src.Lo, .bool x.1.Dst.V6, .int .u64 x.1.Dst.Hi, .int .u64 x.1.Dst.Lo]⟩, .string ⟨⟨x.2.1⟩⟩, .int .i64 x.2.2]⟩, [], []⟩ := by
  show r54 g [.v (.string ⟨⟨a0_1⟩⟩)] = _
  simp only [r54, hx]
abbrev sums54 (R02_Must : (List UInt8) → Int → Int → Option Int) (R04_Get : (List UInt8) → Option (api_Addr × Bool)) : List (Nat × Summ) := [(87, s87 R02_Must), (88, s88 R04_Get)]
theorem leads54 (R02_Must : (List UInt8) → Int → Int → Option Int) (R04_Get : (List UInt8) → Option (api_Addr × Bool)) (hS : SumsOK Try.prog (aget (sums54 R02_Must R04_Get))) (s : List UInt8) (res : ipsix_Head × (List UInt8) × Int) (h : R06_GetF R02_Must R04_Get s = some res) :
    Leads Try.prog 54 0 ⟨⟨54, 59, [(0, .string ⟨⟨s⟩⟩)], [.code k54_27], [], false, none⟩, [], [], 0⟩ (fun v H _ => post54 res v H) := by
  unfold R06_GetF at h
  refine ev_ok tab_ok hS true 3000 ?_
  conv => whnf
  refine br.h h ?_ ?_ ?_
  · rfl
  · clear h; intro hb h; conv => whnf
    all_goals (cases h)
    all_goals exact rfl
  clear h; intro hb h; conv => whnf
  obtain ⟨m, hy, h2⟩ := obind.elim h; clear h; have h := h2; clear h2
  refine sumK.introF [] (sumRun_of (aqs := [.v (.string ⟨⟨s⟩⟩), .v (.int .i64 0), .v (.int .i64 4)]) (ra_cons rfl (ra_cons rfl (ra_cons rfl ra_nil))) (r87_eq hy) rfl rfl rfl rfl) ?_
  conv => whnf
  obtain ⟨m1, hy, h2⟩ := obind.elim h; clear h; have h := h2; clear h2
  refine sumK.introF [] (sumRun_of (aqs := [.v (.string ⟨⟨s⟩⟩), .v (.int .i64 4), .v (.int .i64 2)]) (ra_cons rfl (ra_cons rfl (ra_cons rfl ra_nil))) (r87_eq hy) rfl rfl rfl rfl) ?_
  conv => whnf
  refine br.h h ?_ ?_ ?_
  · rfl
  · clear h; intro hb h; conv => whnf
    all_goals (cases h)
    all_goals exact rfl
  clear h; intro hb h; conv => whnf
  let t : Bool := decide ((wI .i64 ((s.length : Int) - 40)) < m1)
  refine br.h h ?_ ?_ ?_
  · rfl
  · clear h; intro hb h; conv => whnf
    all_goals (cases h)
    all_goals exact rfl
  clear h; intro hb h; conv => whnf
  replace h := oreq.elim h; have hb := h.1; replace h := h.2
  first | (refine req.intro hb ?_; conv => whnf) | skip
  obtain ⟨xg, hy, h2⟩ := obind.elim h; clear h; have h := h2; clear h2
  refine sumK.introF [] (sumRun_of (aqs := [.v (.string ⟨⟨(s.drop 8).take 16⟩⟩)]) (ra_cons rfl ra_nil) (r88_eq hy) rfl rfl rfl rfl) ?_
  conv => whnf
  replace h := oreq.elim h; have hb := h.1; replace h := h.2
  first | (refine req.intro hb ?_; conv => whnf) | skip
  obtain ⟨xg1, hy, h2⟩ := obind.elim h; clear h; have h := h2; clear h2
  refine sumK.introF [] (sumRun_of (aqs := [.v (.string ⟨⟨(s.drop 24).take 16⟩⟩)]) (ra_cons rfl ra_nil) (r88_eq hy) rfl rfl rfl rfl) ?_
  conv => whnf
  obtain ⟨b, hy, h2⟩ := obind.elim h; clear h; have h := h2; clear h2
  refine rdS.intro hy ?_
  conv => whnf
  obtain ⟨b1, hy, h2⟩ := obind.elim h; clear h; have h := h2; clear h2
  refine rdS.intro hy ?_
  conv => whnf
  replace h := oreq.elim h; have hb := h.1; replace h := h.2
  first | (refine req.intro hb ?_; conv => whnf) | skip
  let t1 : List UInt8 := (s.drop 40).take ((wI .i64 (40 + m1)).toNat - 40)
  all_goals (cases h)
  all_goals exact rfl
theorem ok54 (R02_Must : (List UInt8) → Int → Int → Option Int) (R04_Get : (List UInt8) → Option (api_Addr × Bool)) (hS : SumsOK Try.prog (aget (sums54 R02_Must R04_Get))) : SumOK Try.prog 54 (s54 (R06_GetF R02_Must R04_Get)) := by
  refine SumOK.of_leads tab_ok (fun ar r ha hr => ?_) ⟨Try.f54, rfl, by decide, rfl⟩
  simp only [s54] at ha hr
  unfold r54 at hr
  split at hr <;> try (cases hr; done)
  split at hr <;> cases hr
  rename_i x h
  refine ⟨_, rfl, (leads54 R02_Must R04_Get hS _ x h).mono fun v H t hp => ?_⟩
  cases hp
  exact Res.val rfl trivial
def R06_Get : (List UInt8) → Option (ipsix_Head × (List UInt8) × Int) := R06_GetF R02_Must R04_Get
theorem lift54 : SumOK Try.prog 54 (s54 R06_Get) := ok54 R02_Must R04_Get (SumsOK.of_tab ⟨lift87, lift88, trivial⟩)
end Go.Vm.Code

/- Chapter 6 in plain words. -/
namespace Go.Vm.Code
open Go Go.Vm

/-- an address in range -/
def AddrOK (a : api_Addr) : Prop := (0 ≤ a.Hi ∧ a.Hi < 2 ^ 64) ∧ 0 ≤ a.Lo ∧ a.Lo < 2 ^ 64
theorem addrOK_of {v : Bool} {hi lo : Int} (h1 : 0 ≤ hi ∧ hi < 18446744073709551616) (h2 : 0 ≤ lo ∧ lo < 18446744073709551616) : AddrOK ⟨v, hi, lo⟩ := ⟨⟨h1.1, by have := h1.2; simp only []; omega⟩, h2.1, by have := h2.2; simp only []; omega⟩
def addrB (a : api_Addr) : List UInt8 := be a.Hi.toNat 8 ++ be a.Lo.toNat 8
theorem addr_Put6 {a : api_Addr} (h : AddrOK a) (h6 : a.V6 = true) : addr_Put a = some (addrB a) := by
  unfold addr_Put addr_PutF addr_Right addr_RightF
  rw [h6]
  simp only [cond_true, Option.bind_some, Bool.not_true, cond_false]
  rw [octet_Put_eq h.1.1, octet_Put_eq h.2.1]
  simp only [Option.bind_some, putS]
  rw [if_pos (by omega), if_pos (by omega), oreq_p (by simp)]; rfl
theorem R04_Put6 {a : api_Addr} (h : AddrOK a) (h6 : a.V6 = true) : R04_Put a = some (addrB a) := by
  unfold R04_Put R04_PutF R04_Right R04_RightF
  rw [h6]
  simp only [cond_true, Option.bind_some, Bool.not_true, cond_false]
  rw [R02_Put_eq h.1.1 h.1.2, R02_Put_eq h.2.1 h.2.2]
  simp only [Option.bind_some, putS]
  rw [if_pos (by omega), if_pos (by omega), oreq_p (by simp)]; rfl
def addrG (s : List UInt8) : api_Addr := ⟨true, (valL (s.take 8) : Nat), (valL (s.drop 8) : Nat)⟩
theorem getS_in {s : List UInt8} {p k : Nat} (h : p + k ≤ s.length) (h1 : 1 ≤ k) (h8 : k ≤ 8) : getS s (p : Int) (k : Int) = (((valL ((s.drop p).take k) : Nat) : Int), true) := by
  unfold getS; rw [if_pos (by omega)]; rfl
theorem addr_Get16 {s : List UInt8} (h : s.length = 16) : addr_Get s = some (addrG s, true) := by
  unfold addr_Get addr_GetF
  have e1 : ((s.length : Int) == 4) = false := by rw [h]; rfl
  have e2 : ((s.length : Int) == 16) = true := by rw [h]; rfl
  have e3 : (s.drop 8).take 8 = s.drop 8 := List.take_of_length_le (by simp; omega)
  rw [e1, e2, cond_false, cond_true, octet_Get_eq (by omega), octet_Get_eq (by omega), getS_at (p := 0) (k := 8) (by omega) (by omega) (by omega) (by omega), getS_at (p := 8) (k := 8) (by omega) (by omega) (by omega) (by omega)]
  show some ((⟨true, ((valL ((s.drop 0).take 8) : Nat) : Int), ((valL ((s.drop 8).take 8) : Nat) : Int)⟩ : api_Addr), true) = _
  rw [e3]; rfl
theorem R04_Get16 {s : List UInt8} (h : s.length = 16) : R04_Get s = some (addrG s, true) := by
  unfold R04_Get R04_GetF
  have e1 : ((s.length : Int) == 4) = false := by rw [h]; rfl
  have e2 : ((s.length : Int) == 16) = true := by rw [h]; rfl
  have e3 : (s.drop 8).take 8 = s.drop 8 := List.take_of_length_le (by simp; omega)
  rw [e1, e2, cond_false, cond_true, R02_Get_eq (by omega), R02_Get_eq (by omega), getS_at (p := 0) (k := 8) (by omega) (by omega) (by omega) (by omega), getS_at (p := 8) (k := 8) (by omega) (by omega) (by omega) (by omega)]
  show some ((⟨true, ((valL ((s.drop 0).take 8) : Nat) : Int), ((valL ((s.drop 8).take 8) : Nat) : Int)⟩ : api_Addr), true) = _
  rw [e3]; rfl

/-- may a head be? -/
def H6 (h : ipsix_Head) : Prop := (0 ≤ h.Class ∧ h.Class ≤ 255) ∧ (0 ≤ h.Label ∧ h.Label ≤ 1048575) ∧ (0 ≤ h.Next ∧ h.Next ≤ 255) ∧ (0 ≤ h.Hop ∧ h.Hop ≤ 255) ∧ h.Src.V6 = true ∧ h.Dst.V6 = true
instance (h : ipsix_Head) : Decidable (H6 h) := inferInstanceAs (Decidable (_ ∧ _))
theorem may6_eq (h : ipsix_Head) : ipsix_Head_may h = some (decide (H6 h)) := by
  unfold ipsix_Head_may ipsix_Head_mayF
  simp only [cond_dec]
  by_cases hh : H6 h
  · rw [decide_eq_true hh]
    obtain ⟨a, b, c, d, e, f⟩ := hh
    rw [if_neg (by omega), if_neg (by omega), if_neg (by omega), if_neg (by omega), if_neg (by omega), if_neg (by omega), if_neg (by omega), if_neg (by omega), e, f]; rfl
  · rw [decide_eq_false hh]
    unfold H6 at hh
    repeat' split
    all_goals first | rfl | skip
    cases e : h.Src.V6
    · rfl
    · rw [cond_true]
      cases f : h.Dst.V6
      · rfl
      · exact absurd ⟨by omega, by omega, by omega, by omega, e, f⟩ hh
theorem in6_eq (n m : Int) : R06_in n m = some (decide (0 ≤ n ∧ n ≤ m)) := by
  unfold R06_in R06_inF
  by_cases h : n ≥ 0
  · rw [cond_p h]; congr 1; rw [Bool.eq_iff_iff, decide_eq_true_eq, decide_eq_true_eq]; omega
  · rw [cond_n h]; congr 1; symm; exact decide_eq_false (by omega)
theorem right6_eq (h : ipsix_Head) : R06_Right h = some (decide (H6 h)) := by
  unfold R06_Right R06_RightF
  simp only [in6_eq, Option.bind_some, cond_dec]
  by_cases hh : H6 h
  · rw [decide_eq_true hh]
    obtain ⟨a, b, c, d, e, f⟩ := hh
    rw [if_pos a, if_pos b, if_pos c, if_pos d, e, f]; rfl
  · rw [decide_eq_false hh]
    unfold H6 at hh
    repeat' split
    all_goals first | rfl | skip
    cases e : h.Src.V6
    · rfl
    · rw [cond_true]
      cases f : h.Dst.V6
      · rfl
      · exact absurd ⟨by assumption, by assumption, by assumption, by assumption, e, f⟩ hh
/-- a head's bytes -/
def headB (h : ipsix_Head) (n : Nat) : List UInt8 := be (6 * 2 ^ 28 + h.Class.toNat * 2 ^ 20 + h.Label.toNat) 4 ++ be n 2 ++ be h.Next.toNat 1 ++ be h.Hop.toNat 1 ++ addrB h.Src ++ addrB h.Dst
theorem headB_len (h : ipsix_Head) (n : Nat) : (headB h n).length = 40 := by simp [headB, addrB]
def put6 (h : ipsix_Head) (p : List UInt8) : List UInt8 × Int := if ¬ H6 h then ([], 1) else if p.length > 65535 then ([], 5) else (headB h p.length ++ p, 0)
theorem put6_eq {h : ipsix_Head} {p : List UInt8} (hs : AddrOK h.Src) (hd : AddrOK h.Dst) (hp : p.length < 2 ^ 60) : ipsix_Put h p = some (put6 h p) := by
  unfold ipsix_Put ipsix_PutF put6
  rw [may6_eq, Option.bind_some]
  by_cases hh : H6 h
  · rw [decide_eq_true hh, Bool.not_true, cond_false, if_neg (by simpa using hh)]
    obtain ⟨a, b, c, d, e, f⟩ := hh
    by_cases h5 : (p.length : Int) > 65535
    · rw [cond_p h5, if_pos (by omega)]
    rw [cond_n h5, if_neg (by omega)]
    simp only []
    rw [addr_Put6 hs e, addr_Put6 hd f]
    obtain ⟨C, hC⟩ := Int.eq_ofNat_of_zero_le a.1
    obtain ⟨L, hL⟩ := Int.eq_ofNat_of_zero_le b.1
    obtain ⟨X, hX⟩ := Int.eq_ofNat_of_zero_le c.1
    obtain ⟨O, hO⟩ := Int.eq_ofNat_of_zero_le d.1
    rw [hC] at a; rw [hL] at b; rw [hX] at c; rw [hO] at d
    have e1 : iorI .u64 (iorI .u64 1610612736 (wI .u64 ((wI .u64 h.Class) * 2 ^ 20))) (wI .u64 h.Label) = ((6 * 2 ^ 28 + C * 2 ^ 20 + L : Nat) : Int) := by
      rw [hC, hL, wU64 (n := (C : Int)) (by omega) (by omega), wU64 (n := (L : Int)) (by omega) (by omega), wU64 (n := (C : Int) * 2 ^ 20) (by omega) (by omega)]
      have g1 : iorI .u64 1610612736 ((C : Int) * 2 ^ 20) = ((6 * 2 ^ 8 + C : Nat) : Int) * 2 ^ 20 := by
        have := iorU64_low 28 (a := 6) (b := (C : Int) * 2 ^ 20) (by omega) (by omega) (by omega) (by omega) (by omega)
        rw [show (6 : Int) * 2 ^ 28 = 1610612736 from rfl] at this
        rw [this]; omega
      rw [g1, iorU64_low 20 (by omega) (by omega) (by omega) (by omega) (by omega)]; omega
    have e2 : iorI .u64 (iorI .u64 (wI .u64 ((wI .u64 (p.length : Int)) * 2 ^ 16)) (wI .u64 ((wI .u64 h.Next) * 2 ^ 8))) (wI .u64 h.Hop) = ((p.length * 2 ^ 16 + X * 2 ^ 8 + O : Nat) : Int) := by
      rw [hX, hO, wU64 (n := (X : Int)) (by omega) (by omega), wU64 (n := (O : Int)) (by omega) (by omega), wU64 (n := (p.length : Int)) (by omega) (by omega), wU64 (n := (X : Int) * 2 ^ 8) (by omega) (by omega), wU64 (n := (p.length : Int) * 2 ^ 16) (by omega) (by omega)]
      have g1 : iorI .u64 ((p.length : Int) * 2 ^ 16) ((X : Int) * 2 ^ 8) = ((p.length * 2 ^ 8 + X : Nat) : Int) * 2 ^ 8 := by
        rw [iorU64_low 16 (by omega) (by omega) (by omega) (by omega) (by omega)]; omega
      rw [g1, iorU64_low 8 (by omega) (by omega) (by omega) (by omega) (by omega)]; omega
    rw [e1, e2, octet_Put_eq (by omega), octet_Put_eq (by omega)]
    simp only [Option.bind_some, putS]
    have e3 : be (p.length * 2 ^ 16 + X * 2 ^ 8 + O) 4 = be p.length 2 ++ be X 1 ++ be O 1 := by
      refine be_of (by simp) ?_
      rw [val_append, val_append, val_be, val_be, val_be]
      simp only [be_len]
      omega
    rw [if_pos (by omega), if_pos (by omega)]
    have hl : (be (6 * 2 ^ 28 + C * 2 ^ 20 + L) 4).length = 4 := be_len _ _
    simp only [Int.toNat_natCast, show (4 : Int).toNat = 4 from rfl, e3]
    rw [oreq_p (by simp), oreq_p (by simp [addrB]), oreq_p (by simp [addrB]), oreq_p (by simp [addrB]; omega)]
    simp [headB, hC, hL, hX, hO]
  · rw [decide_eq_false hh, Bool.not_false, cond_true, if_pos hh]
theorem num6 {n k : Int} (h0 : 0 ≤ n) (h1 : n < 2 ^ 64) : R06_num n k = some (putS n k) := by
  unfold R06_num R06_numF
  rw [wU64 h0 (by omega), R02_Put_eq h0 h1]; rfl
theorem rput6_eq {h : ipsix_Head} {p : List UInt8} (hs : AddrOK h.Src) (hd : AddrOK h.Dst) (hp : p.length < 2 ^ 60) : R06_Put h p = some (put6 h p) := by
  unfold R06_Put R06_PutF put6
  rw [right6_eq, Option.bind_some]
  by_cases hh : H6 h
  · rw [decide_eq_true hh, Bool.not_true, cond_false, if_neg (by simpa using hh)]
    obtain ⟨a, b, c, d, e, f⟩ := hh
    by_cases h5 : (p.length : Int) > 65535
    · rw [cond_p h5, if_pos (by omega)]
    rw [cond_n h5, if_neg (by omega)]
    simp only []
    obtain ⟨C, hC⟩ := Int.eq_ofNat_of_zero_le a.1
    obtain ⟨L, hL⟩ := Int.eq_ofNat_of_zero_le b.1
    rw [hC] at a; rw [hL] at b
    have e1 : wI .i64 (wI .i64 (1610612736 + (wI .i64 (h.Class * 1048576))) + h.Label) = ((6 * 2 ^ 28 + C * 2 ^ 20 + L : Nat) : Int) := by
      rw [hC, hL, wI64 (n := (C : Int) * 1048576) (by omega) (by omega), wI64 (n := 1610612736 + (C : Int) * 1048576) (by omega) (by omega), wI64 (by omega) (by omega)]; omega
    rw [e1, R04_Put6 hs e, R04_Put6 hd f, num6 (by omega) (by omega), num6 (by omega) (by omega), num6 c.1 (by omega), num6 d.1 (by omega)]
    simp only [Option.bind_some, putS]
    rw [if_pos (by omega), if_pos (by omega), if_pos (by omega), if_pos (by omega)]
    simp only [Int.toNat_natCast, show (4 : Int).toNat = 4 from rfl, show (2 : Int).toNat = 2 from rfl, show (1 : Int).toNat = 1 from rfl]
    rw [oreq_p (by simp), oreq_p (by simp), oreq_p (by simp), oreq_p (by simp [addrB]), oreq_p (by simp [addrB]), oreq_p (by simp [addrB]; omega)]
    simp [headB, hC, hL]
  · rw [decide_eq_false hh, Bool.not_false, cond_true, if_pos hh]

def zero6 : ipsix_Head := ⟨0, 0, 0, 0, ⟨false, 0, 0⟩, ⟨false, 0, 0⟩⟩
/-- the head of bytes -/
def head6 (s : List UInt8) : ipsix_Head :=
  let m := valL (s.take 4)
  ⟨((m / 2 ^ 20 % 256 : Nat) : Int), ((m % 2 ^ 20 : Nat) : Int), ((valL ((s.drop 6).take 1) : Nat) : Int), ((valL ((s.drop 7).take 1) : Nat) : Int), addrG ((s.drop 8).take 16), addrG ((s.drop 24).take 16)⟩
def get6 (s : List UInt8) : ipsix_Head × List UInt8 × Int :=
  if s.length < 40 then (zero6, [], 2) else if valL (s.take 4) / 2 ^ 28 ≠ 6 then (zero6, [], 3) else if s.length - 40 < valL ((s.drop 4).take 2) then (zero6, [], 2) else
    (head6 s, (s.drop 40).take (valL ((s.drop 4).take 2)), 0)
theorem get6_eq {s : List UInt8} (h : s.length < 2 ^ 60) : ipsix_Get s = some (get6 s) := by
  unfold ipsix_Get ipsix_GetF
  rw [rNew_eq, Option.bind_some]
  by_cases hs : s.length < 40
  · have e : get6 s = (zero6, [], 2) := by unfold get6; rw [if_pos hs]
    rw [rNum_eq rfl (by simp only []; omega), Option.bind_some]
    simp only []
    have b1 : ∀ (r : octet_Reader) (k : Int), (rdr r k).s.length ≤ r.s.length := by intro r k; unfold rdr; split <;> simp
    have l1 := b1 ⟨s, true, false⟩ (if (4 : Int) < 1 ∨ (4 : Int) > 7 then -1 else 4)
    simp only at l1
    generalize hr1 : rdr ⟨s, true, false⟩ (if (4 : Int) < 1 ∨ (4 : Int) > 7 then -1 else 4) = r1 at *
    have m1 : r1.made = true := by rw [← hr1]; exact rdr_made _ _
    rw [rNum_eq m1 (by omega), Option.bind_some]
    simp only []
    have l2 := b1 r1 (if (2 : Int) < 1 ∨ (2 : Int) > 7 then -1 else 2)
    generalize hr2 : rdr r1 (if (2 : Int) < 1 ∨ (2 : Int) > 7 then -1 else 2) = r2 at *
    have m2 : r2.made = true := by rw [← hr2]; exact rdr_made _ _
    rw [rNum_eq m2 (by omega), Option.bind_some]
    simp only []
    have l3 := b1 r2 (if (1 : Int) < 1 ∨ (1 : Int) > 7 then -1 else 1)
    generalize hr3 : rdr r2 (if (1 : Int) < 1 ∨ (1 : Int) > 7 then -1 else 1) = r3 at *
    have m3 : r3.made = true := by rw [← hr3]; exact rdr_made _ _
    rw [rNum_eq m3 (by omega), Option.bind_some]
    simp only []
    have l4 := b1 r3 (if (1 : Int) < 1 ∨ (1 : Int) > 7 then -1 else 1)
    generalize hr4 : rdr r3 (if (1 : Int) < 1 ∨ (1 : Int) > 7 then -1 else 1) = r4 at *
    have m4 : r4.made = true := by rw [← hr4]; exact rdr_made _ _
    rw [rText_eq m4, Option.bind_some]
    simp only []
    generalize hr5 : rdr r4 16 = r5 at *
    have m5 : r5.made = true := by rw [← hr5]; exact rdr_made _ _
    rw [rText_eq m5, Option.bind_some]
    simp only []
    generalize hr6 : rdr r5 16 = r6 at *
    have m6 : r6.made = true := by rw [← hr6]; exact rdr_made _ _
    rw [rBad_eq m6, Option.bind_some]
    have hb : r6.bad = true := by
      cases hb : r6.bad with
      | true => rfl
      | false =>
        exfalso
        obtain ⟨a5, n6⟩ := rdr_step hr6 hb
        obtain ⟨a4, n5⟩ := rdr_step hr5 a5
        obtain ⟨a3, n4⟩ := rdr_step hr4 a4
        obtain ⟨a2, n3⟩ := rdr_step hr3 a3
        obtain ⟨a1, n2⟩ := rdr_step hr2 a2
        obtain ⟨a0, n1⟩ := rdr_step hr1 a1
        rw [show (if (4 : Int) < 1 ∨ (4 : Int) > 7 then -1 else 4 : Int) = 4 by decide] at n1
        simp only at n1
        omega
    simp only [hb, cond_true]
    rw [e]; rfl
  · have i4 : (if (4 : Int) < 1 ∨ (4 : Int) > 7 then -1 else 4 : Int) = 4 := by decide
    have i2 : (if (2 : Int) < 1 ∨ (2 : Int) > 7 then -1 else 2 : Int) = 2 := by decide
    have i1 : (if (1 : Int) < 1 ∨ (1 : Int) > 7 then -1 else 1 : Int) = 1 := by decide
    have t4 : (4 : Int).toNat = 4 := rfl
    have t2 : (2 : Int).toNat = 2 := rfl
    have t1 : (1 : Int).toNat = 1 := rfl
    have t16 : (16 : Int).toNat = 16 := rfl
    rw [rNum_eq rfl (by simp only []; omega), Option.bind_some]
    simp only [rdn, i4]
    rw [rdr_ok (by omega) (by omega), rdt_ok (by omega) (by omega), t4]
    rw [rNum_eq rfl (by simp; omega), Option.bind_some]
    simp only [rdn, i2]
    rw [rdr_ok (by omega) (by simp; omega), rdt_ok (by omega) (by simp; omega), t2, List.drop_drop]
    rw [rNum_eq rfl (by simp; omega), Option.bind_some]
    simp only [rdn, i1]
    rw [rdr_ok (by omega) (by simp; omega), rdt_ok (by omega) (by simp; omega), t1, List.drop_drop]
    rw [rNum_eq rfl (by simp; omega), Option.bind_some]
    simp only [rdn, i1]
    rw [rdr_ok (by omega) (by simp; omega), rdt_ok (by omega) (by simp; omega), t1, List.drop_drop]
    rw [rText_eq rfl, Option.bind_some]
    simp only []
    rw [rdr_ok (by omega) (by simp; omega), rdt_ok (by omega) (by simp; omega), t16, List.drop_drop]
    rw [rText_eq rfl, Option.bind_some]
    simp only []
    rw [rdr_ok (by omega) (by simp; omega), rdt_ok (by omega) (by simp; omega), t16, List.drop_drop]
    rw [rBad_eq rfl, Option.bind_some]
    simp only [cond_false, Nat.reduceAdd]
    have v4 : valL (s.take 4) < 2 ^ 32 := val_take_lt _ (by decide)
    have v2 : valL ((s.drop 4).take 2) < 2 ^ 16 := val_take_lt _ (by decide)
    unfold get6
    rw [if_neg hs]
    have e1 : ((((valL (s.take 4) : Nat) : Int).fdiv (2 ^ 28)) != 6) = decide (valL (s.take 4) / 2 ^ 28 ≠ 6) := by
      rw [fdivP, Bool.eq_iff_iff, bne_iff_ne, decide_eq_true_eq]; omega
    rw [e1]
    by_cases h6 : valL (s.take 4) / 2 ^ 28 ≠ 6
    · rw [cond_p h6, if_pos h6]; rfl
    rw [cond_n h6, if_neg h6]
    rw [addr_Get16 (by simp; omega), addr_Get16 (by simp; omega)]
    simp only [Option.bind_some]
    rw [rText_eq rfl, Option.bind_some]
    by_cases hn : s.length - 40 < valL ((s.drop 4).take 2)
    · rw [rBad_eq (rdr_made _ _), Option.bind_some]
      have hb : (rdr ⟨s.drop 40, true, false⟩ ((valL ((s.drop 4).take 2) : Nat) : Int)).bad = true := by
        cases hb : (rdr ⟨s.drop 40, true, false⟩ ((valL ((s.drop 4).take 2) : Nat) : Int)).bad with
        | true => rfl
        | false =>
          exfalso
          obtain ⟨_, _, c⟩ := rdr_bad.1 hb
          simp at c; omega
      simp only [hb, cond_true]
      rw [if_pos hn]; rfl
    · rw [rdr_ok (by omega) (by simp; omega), rdt_ok (by omega) (by simp; omega), rBad_eq rfl, Option.bind_some]
      simp only [cond_false, Int.toNat_natCast]
      rw [if_neg hn]
      unfold head6
      simp only []
      have e2 : andI .i64 ((((valL (s.take 4) : Nat) : Int)).fdiv (2 ^ 20)) 255 = ((valL (s.take 4) / 2 ^ 20 % 256 : Nat) : Int) := by
        rw [fdivP, andI64_mask (m := 255) 8 (by decide) (by decide) (by omega) (by omega)]; omega
      have e3 : andI .i64 ((valL (s.take 4) : Nat) : Int) 1048575 = ((valL (s.take 4) % 2 ^ 20 : Nat) : Int) := by
        rw [andI64_mask (m := 1048575) 20 (by decide) (by decide) (by omega) (by omega)]; omega
      rw [e2, e3]
theorem rget6_eq {s : List UInt8} (h : s.length < 2 ^ 60) : R06_Get s = some (get6 s) := by
  unfold R06_Get R06_GetF get6
  by_cases hs : s.length < 40
  · rw [cond_p (by omega), if_pos hs]; rfl
  rw [cond_n (by omega), if_neg hs]
  have v4 : valL (s.take 4) < 2 ^ 32 := val_take_lt _ (by decide)
  have v2 : valL ((s.drop 4).take 2) < 2 ^ 16 := val_take_lt _ (by decide)
  rw [R02_Must_eq (by omega), R02_Must_eq (by omega), getS_at (p := 0) (k := 4) (by omega) (by omega) (by omega) (by omega), getS_at (p := 4) (k := 2) (by omega) (by omega) (by omega) (by omega)]
  simp only [Option.bind_some, show (0 : Int).toNat = 0 from rfl, show (4 : Int).toNat = 4 from rfl, show (2 : Int).toNat = 2 from rfl, List.drop_zero]
  rw [wI64 (n := ((valL (s.take 4) : Nat) : Int)) (by omega) (by omega), wI64 (n := ((valL ((s.drop 4).take 2) : Nat) : Int)) (by omega) (by omega)]
  have e1 : ((wI .i64 ((((valL (s.take 4) : Nat) : Int)).tdiv 268435456)) != 6) = decide (valL (s.take 4) / 2 ^ 28 ≠ 6) := by
    rw [Int.tdiv_eq_ediv_of_nonneg (by omega), wI64 (by omega) (by omega), Bool.eq_iff_iff, bne_iff_ne, decide_eq_true_eq]; omega
  rw [e1]
  by_cases h6 : valL (s.take 4) / 2 ^ 28 ≠ 6
  · rw [cond_p h6, if_pos h6]; rfl
  rw [cond_n h6, if_neg h6, wI64 (n := (s.length : Int) - 40) (by omega) (by omega)]
  by_cases hn : s.length - 40 < valL ((s.drop 4).take 2)
  · rw [cond_p (by omega), if_pos hn]; rfl
  rw [cond_n (by omega), if_neg hn, oreq_p (by omega), R04_Get16 (by simp; omega), Option.bind_some, oreq_p (by omega), R04_Get16 (by simp; omega), Option.bind_some, List.getElem?_eq_getElem (by omega : 6 < s.length), Option.bind_some,
    List.getElem?_eq_getElem (by omega : 7 < s.length), Option.bind_some, wI64 (n := 40 + ((valL ((s.drop 4).take 2) : Nat) : Int)) (by omega) (by omega), oreq_p (by omega)]
  have b6 := s[6].toNat_lt
  have b7 := s[7].toNat_lt
  have e6 : (s.drop 6).take 1 = [s[6]] := by rw [List.drop_eq_getElem_cons (by omega : 6 < s.length)]; rfl
  have e7 : (s.drop 7).take 1 = [s[7]] := by rw [List.drop_eq_getElem_cons (by omega : 7 < s.length)]; rfl
  have e8 : (40 + ((valL ((s.drop 4).take 2) : Nat) : Int)).toNat - 40 = valL ((s.drop 4).take 2) := by omega
  unfold head6
  simp only [e6, e7, e8, val_cons, val_nil]
  rw [Int.tdiv_eq_ediv_of_nonneg (by omega), wI64 (n := ((valL (s.take 4) : Nat) : Int) / 1048576) (by omega) (by omega), Int.tmod_eq_emod_of_nonneg (by omega), Int.tmod_eq_emod_of_nonneg (by omega), wI64 (n := (s[6].toNat : Int)) (by omega) (by omega), wI64 (n := (s[7].toNat : Int)) (by omega) (by omega)]
  simp
end Go.Vm.Code

namespace Go.Vm.Code
open Go Go.Vm Go.Proofs
set_option maxRecDepth 100000
set_option maxHeartbeats 4000000
set_option linter.unusedVariables false

/-! cloakroom/cloakroomlaw06.awake -/
def law06_awakeF (ipsix_Put : ipsix_Head → (List UInt8) → Option ((List UInt8) × Int)) (ipsix_Get : (List UInt8) → Option (ipsix_Head × (List UInt8) × Int)) : Option Bool :=
  (ipsix_Put (ipsix_Head.mk 0 0 6 0 (api_Addr.mk true 0 1) (api_Addr.mk true 0 2)) [97]).bind fun p =>
  (ipsix_Get p.1).bind fun xg =>
  (ipsix_Get []).bind fun xg1 =>
  cond (p.2 == 0)
    (
    cond ((p.1.length : Int) == 41)
      (
      (p.1[0]?).bind fun (b : UInt8) =>
      cond ((b.toNat : Int) == 96)
        (
        cond (xg.2.2 == 0)
          (
          cond (xg.2.1 == [97])
            (
            some (xg1.2.2 == 2))
            (
            some (false)))
          (
          some (false)))
        (
        some (false)))
      (
      some (false)))
    (
    some (false))
def post49 (x : Bool) (v : Value) (H : Hp) : Prop := v = .bool x
def r49 (g : Option Bool) : List SArg → Option SRes
  | [] => match g  with | some x => some ⟨.bool x, [], []⟩ | none => none
  | _ => none
def s49 (g : Option Bool) : Summ := ⟨[], r49 g⟩
theorem r49_eq {g : Option Bool} {x : Bool} (hx : g  = some x) : (s49 g).run [] = some ⟨.bool x, [], []⟩ := by
  show r49 g [] = _
  simp only [r49, hx]
abbrev sums49 (ipsix_Put : ipsix_Head → (List UInt8) → Option ((List UInt8) × Int)) (ipsix_Get : (List UInt8) → Option (ipsix_Head × (List UInt8) × Int)) : List (Nat × Summ) := [(50, s50 ipsix_Put), (53, s53 ipsix_Get)]
theorem leads49 (ipsix_Put : ipsix_Head → (List UInt8) → Option ((List UInt8) × Int)) (ipsix_Get : (List UInt8) → Option (ipsix_Head × (List UInt8) × Int)) (hS : SumsOK Try.prog (aget (sums49 ipsix_Put ipsix_Get))) (res : Bool) (h : law06_awakeF ipsix_Put ipsix_Get = some res) :
    Leads Try.prog 49 0 ⟨⟨49, 51, [], [.code k49_9], [], false, none⟩, [], [], 0⟩ (fun v H _ => post49 res v H) := by
  unfold law06_awakeF at h
  refine ev_ok tab_ok hS true 3000 ?_
  conv => whnf
  obtain ⟨p, hy, h2⟩ := obind.elim h; clear h; have h := h2; clear h2
  refine sumK.introF [] (sumRun_of (aqs := [.v (.agg ⟨[.int .i64 0, .int .i64 0, .int .i64 6, .int .i64 0, .bool true, .int .u64 0, .int .u64 1, .bool true, .int .u64 0, .int .u64 2]⟩), .v (.string ⟨⟨[97]⟩⟩)]) (ra_cons rfl (ra_cons rfl ra_nil)) (r50_eq hy) rfl rfl rfl rfl) ?_
  conv => whnf
  obtain ⟨xg, hy, h2⟩ := obind.elim h; clear h; have h := h2; clear h2
  refine sumK.introF [] (sumRun_of (aqs := [.v (.string ⟨⟨p.1⟩⟩)]) (ra_cons rfl ra_nil) (r53_eq hy) rfl rfl rfl rfl) ?_
  conv => whnf
  obtain ⟨xg1, hy, h2⟩ := obind.elim h; clear h; have h := h2; clear h2
  refine sumK.introF [] (sumRun_of (aqs := [.v (.string ⟨⟨[]⟩⟩)]) (ra_cons rfl ra_nil) (r53_eq hy) rfl rfl rfl rfl) ?_
  conv => whnf
  refine br.h2 h ?_ ?_ ?_
  · rfl
  · clear h; intro hb h; conv => whnf
    all_goals (cases h)
    all_goals exact rfl
  clear h; intro hb h; conv => whnf
  refine br.h2 h ?_ ?_ ?_
  · rfl
  · clear h; intro hb h; conv => whnf
    all_goals (cases h)
    all_goals exact rfl
  clear h; intro hb h; conv => whnf
  obtain ⟨b, hy, h2⟩ := obind.elim h; clear h; have h := h2; clear h2
  refine rdS.intro hy ?_
  conv => whnf
  refine br.h2 h ?_ ?_ ?_
  · rfl
  · clear h; intro hb h; conv => whnf
    all_goals (cases h)
    all_goals exact rfl
  clear h; intro hb h; conv => whnf
  refine br.h2 h ?_ ?_ ?_
  · rfl
  · clear h; intro hb h; conv => whnf
    all_goals (cases h)
    all_goals exact rfl
  clear h; intro hb h; conv => whnf
  refine br.h h ?_ ?_ ?_
  · rfl
  · clear h; intro hb h; conv => whnf
    all_goals (cases h)
    all_goals exact rfl
  clear h; intro hb h; conv => whnf
  all_goals (cases h)
  all_goals exact rfl
theorem ok49 (ipsix_Put : ipsix_Head → (List UInt8) → Option ((List UInt8) × Int)) (ipsix_Get : (List UInt8) → Option (ipsix_Head × (List UInt8) × Int)) (hS : SumsOK Try.prog (aget (sums49 ipsix_Put ipsix_Get))) : SumOK Try.prog 49 (s49 (law06_awakeF ipsix_Put ipsix_Get)) := by
  refine SumOK.of_leads tab_ok (fun ar r ha hr => ?_) ⟨Try.f49, rfl, by decide, rfl⟩
  simp only [s49] at ha hr
  unfold r49 at hr
  split at hr <;> try (cases hr; done)
  split at hr <;> cases hr
  rename_i x h
  refine ⟨_, rfl, (leads49 ipsix_Put ipsix_Get hS x h).mono fun v H t hp => ?_⟩
  cases hp
  exact Res.val rfl trivial
def law06_awake : Option Bool := law06_awakeF ipsix_Put ipsix_Get
theorem lift49 : SumOK Try.prog 49 (s49 law06_awake) := ok49 ipsix_Put ipsix_Get (SumsOK.of_tab ⟨lift50, lift53, trivial⟩)
end Go.Vm.Code

namespace Go.Vm.Code
open Go Go.Vm Go.Proofs
set_option maxRecDepth 100000
set_option maxHeartbeats 4000000
set_option linter.unusedVariables false

/-! cloakroom/cloakroomlaw06.of -/
def law06_ofF (ha0 : ipsix_Head) : Option ipsix_Head :=
  some (ha0)
def post51 (x : ipsix_Head) (v : Value) (H : Hp) : Prop := v = .agg ⟨[.int .i64 x.Class, .int .i64 x.Label, .int .i64 x.Next, .int .i64 x.Hop, .bool x.Src.V6, .int .u64 x.Src.Hi, .int .u64 x.Src.Lo, .bool x.Dst.V6, .int .u64 x.Dst.Hi, .int .u64 x.Dst.Lo]⟩
def r51 (g : ipsix_Head → Option ipsix_Head) : List SArg → Option SRes
  | [.v (.agg ⟨[.int .i64 a0_1, .int .i64 a0_2, .int .i64 a0_3, .int .i64 a0_4, .bool a0_5, .int .u64 a0_6, .int .u64 a0_7, .bool a0_8, .int .u64 a0_9, .int .u64 a0_10]⟩)] => match g (ipsix_Head.mk a0_1 a0_2 a0_3 a0_4 (api_Addr.mk a0_5 a0_6 a0_7) (api_Addr.mk a0_8 a0_9 a0_10)) with | some x => some ⟨.agg ⟨[.int .i64 x.Class, .int .i64 x.Label, .int .i64 x.Next, .int .i64 x.Hop, .bool x.Src.V6, .int .u64 x.Src.Hi, .int .u64 x.Src.Lo, .bool x.Dst.V6, .int .u64 x.Dst.Hi, .int .u64 x.Dst.Lo]⟩, [], []⟩ | none => none
  | _ => none
def s51 (g : ipsix_Head → Option ipsix_Head) : Summ := ⟨[.v], r51 g⟩
theorem r51_eq {g : ipsix_Head → Option ipsix_Head} {a0_1 : Int} {a0_2 : Int} {a0_3 : Int} {a0_4 : Int} {a0_5 : Bool} {a0_6 : Int} {a0_7 : Int} {a0_8 : Bool} {a0_9 : Int} {a0_10 : Int} {x : ipsix_Head} (hx : g (ipsix_Head.mk a0_1 a0_2 a0_3 a0_4 (api_Addr.mk a0_5 a0_6 a0_7) (api_Addr.mk a0_8 a0_9 a0_10)) = some x) : (s51 g).run [.v (.agg ⟨[.int .i64 a0_1, .int .i64 a0_2, .int .i64 a0_3, .int .i64 a0_4, .bool a0_5, .int .u64 a0_6, .int .u64 a0_7, .bool a0_8, .int .u64 a0_9, .int .u64 a0_10]⟩)] = some ⟨.agg ⟨[.int .i64 x.Class, .int .i64 x.Label, .int .i64 x.Next, .int .i64 x.Hop, .bool x.Src.V6, .int .u64 x.Src.Hi, .int .u64 x.Src.Lo, .bool x.Dst.V6, .int .u64 x.Dst.Hi, .int .u64 x.Dst.Lo]⟩, [], []⟩ := by
  show r51 g [.v (.agg ⟨[.int .i64 a0_1, .int .i64 a0_2, .int .i64 a0_3, .int .i64 a0_4, .bool a0_5, .int .u64 a0_6, .int .u64 a0_7, .bool a0_8, .int .u64 a0_9, .int .u64 a0_10]⟩)] = _
  simp only [r51, hx]
abbrev sums51 : List (Nat × Summ) := []
theorem leads51 (hS : SumsOK Try.prog (aget (sums51))) (ha0 : ipsix_Head) (res : ipsix_Head) (h : law06_ofF ha0 = some res) :
    Leads Try.prog 51 0 ⟨⟨51, 16, [(0, .agg ⟨[.int .i64 ha0.Class, .int .i64 ha0.Label, .int .i64 ha0.Next, .int .i64 ha0.Hop, .bool ha0.Src.V6, .int .u64 ha0.Src.Hi, .int .u64 ha0.Src.Lo, .bool ha0.Dst.V6, .int .u64 ha0.Dst.Hi, .int .u64 ha0.Dst.Lo]⟩)], [.code k51_3], [], false, none⟩, [], [], 0⟩ (fun v H _ => post51 res v H) := by
  unfold law06_ofF at h
  refine ev_ok tab_ok hS true 3000 ?_
  conv => whnf
  all_goals (cases h)
  all_goals exact rfl
theorem ok51 (hS : SumsOK Try.prog (aget (sums51))) : SumOK Try.prog 51 (s51 (law06_ofF)) := by
  refine SumOK.of_leads tab_ok (fun ar r ha hr => ?_) ⟨Try.f51, rfl, by decide, rfl⟩
  simp only [s51] at ha hr
  unfold r51 at hr
  split at hr <;> try (cases hr; done)
  split at hr <;> cases hr
  rename_i x h
  refine ⟨_, rfl, (leads51 hS _ x h).mono fun v H t hp => ?_⟩
  cases hp
  exact Res.val rfl trivial
def law06_of : ipsix_Head → Option ipsix_Head := law06_ofF
theorem lift51 : SumOK Try.prog 51 (s51 law06_of) := ok51 (SumsOK.of_tab trivial)
end Go.Vm.Code

namespace Go.Vm.Code
open Go Go.Vm Go.Proofs
set_option maxRecDepth 100000
set_option maxHeartbeats 4000000
set_option linter.unusedVariables false

/-! cloakroom/cloakroomlaw06.back -/
def law06_backF (ha0 : ipsix_Head) : Option ipsix_Head :=
  some (ha0)
def post55 (x : ipsix_Head) (v : Value) (H : Hp) : Prop := v = .agg ⟨[.int .i64 x.Class, .int .i64 x.Label, .int .i64 x.Next, .int .i64 x.Hop, .bool x.Src.V6, .int .u64 x.Src.Hi, .int .u64 x.Src.Lo, .bool x.Dst.V6, .int .u64 x.Dst.Hi, .int .u64 x.Dst.Lo]⟩
def r55 (g : ipsix_Head → Option ipsix_Head) : List SArg → Option SRes
  | [.v (.agg ⟨[.int .i64 a0_1, .int .i64 a0_2, .int .i64 a0_3, .int .i64 a0_4, .bool a0_5, .int .u64 a0_6, .int .u64 a0_7, .bool a0_8, .int .u64 a0_9, .int .u64 a0_10]⟩)] => match g (ipsix_Head.mk a0_1 a0_2 a0_3 a0_4 (api_Addr.mk a0_5 a0_6 a0_7) (api_Addr.mk a0_8 a0_9 a0_10)) with | some x => some ⟨.agg ⟨[.int .i64 x.Class, .int .i64 x.Label, .int .i64 x.Next, .int .i64 x.Hop, .bool x.Src.V6, .int .u64 x.Src.Hi, .int .u64 x.Src.Lo, .bool x.Dst.V6, .int .u64 x.Dst.Hi, .int .u64 x.Dst.Lo]⟩, [], []⟩ | none => none
  | _ => none
def s55 (g : ipsix_Head → Option ipsix_Head) : Summ := ⟨[.v], r55 g⟩
theorem r55_eq {g : ipsix_Head → Option ipsix_Head} {a0_1 : Int} {a0_2 : Int} {a0_3 : Int} {a0_4 : Int} {a0_5 : Bool} {a0_6 : Int} {a0_7 : Int} {a0_8 : Bool} {a0_9 : Int} {a0_10 : Int} {x : ipsix_Head} (hx : g (ipsix_Head.mk a0_1 a0_2 a0_3 a0_4 (api_Addr.mk a0_5 a0_6 a0_7) (api_Addr.mk a0_8 a0_9 a0_10)) = some x) : (s55 g).run [.v (.agg ⟨[.int .i64 a0_1, .int .i64 a0_2, .int .i64 a0_3, .int .i64 a0_4, .bool a0_5, .int .u64 a0_6, .int .u64 a0_7, .bool a0_8, .int .u64 a0_9, .int .u64 a0_10]⟩)] = some ⟨.agg ⟨[.int .i64 x.Class, .int .i64 x.Label, .int .i64 x.Next, .int .i64 x.Hop, .bool x.Src.V6, .int .u64 x.Src.Hi, .int .u64 x.Src.Lo, .bool x.Dst.V6, .int .u64 x.Dst.Hi, .int .u64 x.Dst.Lo]⟩, [], []⟩ := by
  show r55 g [.v (.agg ⟨[.int .i64 a0_1, .int .i64 a0_2, .int .i64 a0_3, .int .i64 a0_4, .bool a0_5, .int .u64 a0_6, .int .u64 a0_7, .bool a0_8, .int .u64 a0_9, .int .u64 a0_10]⟩)] = _
  simp only [r55, hx]
abbrev sums55 : List (Nat × Summ) := []
theorem leads55 (hS : SumsOK Try.prog (aget (sums55))) (ha0 : ipsix_Head) (res : ipsix_Head) (h : law06_backF ha0 = some res) :
    Leads Try.prog 55 0 ⟨⟨55, 16, [(0, .agg ⟨[.int .i64 ha0.Class, .int .i64 ha0.Label, .int .i64 ha0.Next, .int .i64 ha0.Hop, .bool ha0.Src.V6, .int .u64 ha0.Src.Hi, .int .u64 ha0.Src.Lo, .bool ha0.Dst.V6, .int .u64 ha0.Dst.Hi, .int .u64 ha0.Dst.Lo]⟩)], [.code k55_3], [], false, none⟩, [], [], 0⟩ (fun v H _ => post55 res v H) := by
  unfold law06_backF at h
  refine ev_ok tab_ok hS true 3000 ?_
  conv => whnf
  all_goals (cases h)
  all_goals exact rfl
theorem ok55 (hS : SumsOK Try.prog (aget (sums55))) : SumOK Try.prog 55 (s55 (law06_backF)) := by
  refine SumOK.of_leads tab_ok (fun ar r ha hr => ?_) ⟨Try.f55, rfl, by decide, rfl⟩
  simp only [s55] at ha hr
  unfold r55 at hr
  split at hr <;> try (cases hr; done)
  split at hr <;> cases hr
  rename_i x h
  refine ⟨_, rfl, (leads55 hS _ x h).mono fun v H t hp => ?_⟩
  cases hp
  exact Res.val rfl trivial
def law06_back : ipsix_Head → Option ipsix_Head := law06_backF
theorem lift55 : SumOK Try.prog 55 (s55 law06_back) := ok55 (SumsOK.of_tab trivial)
end Go.Vm.Code

namespace Go.Vm.Code
open Go Go.Vm Go.Proofs
set_option maxRecDepth 100000
set_option maxHeartbeats 4000000
set_option linter.unusedVariables false

/-! cloakroom/cloakroomlaw06.IpsixTells -/
def law06_IpsixTellsF (law06_awake : Option Bool) (ipsix_Put : ipsix_Head → (List UInt8) → Option ((List UInt8) × Int)) (law06_of : ipsix_Head → Option ipsix_Head) (R06_Put : ipsix_Head → (List UInt8) → Option ((List UInt8) × Int)) (ipsix_Get : (List UInt8) → Option (ipsix_Head × (List UInt8) × Int)) (R06_Get : (List UInt8) → Option (ipsix_Head × (List UInt8) × Int)) (law06_back : ipsix_Head → Option ipsix_Head) (ha0 : ipsix_Head) (payload : List UInt8) (s : List UInt8) : Option Bool :=
  cond (decide ((payload.length : Int) > 200))
    (
    (law06_awake).bind fun a =>
    some (a))
    (
    cond (decide ((s.length : Int) > 200))
      (
      (law06_awake).bind fun a1 =>
      some (a1))
      (
      (law06_of ha0).bind fun xo =>
      (ipsix_Put xo payload).bind fun p =>
      (R06_Put ha0 payload).bind fun p1 =>
      (ipsix_Get s).bind fun xg =>
      (R06_Get s).bind fun xg1 =>
      cond (p.1 == p1.1)
        (
        cond (p.2 == p1.2)
          (
          (law06_back xg.1).bind fun b =>
          let t := (b.Class == xg1.1.Class) && ((b.Label == xg1.1.Label) && ((b.Next == xg1.1.Next) && ((b.Hop == xg1.1.Hop) && ((b.Src.V6 == xg1.1.Src.V6) && ((b.Src.Hi == xg1.1.Src.Hi) && ((b.Src.Lo == xg1.1.Src.Lo) && ((b.Dst.V6 == xg1.1.Dst.V6) && ((b.Dst.Hi == xg1.1.Dst.Hi) && ((b.Dst.Lo == xg1.1.Dst.Lo) && true)))))))))
          cond (t)
            (
            cond (xg.2.1 == xg1.2.1)
              (
              cond (xg.2.2 == xg1.2.2)
                (
                (law06_awake).bind fun a2 =>
                some (a2))
                (
                some (false)))
              (
              some (false)))
            (
            some (false)))
          (
          some (false)))
        (
        some (false))))
def post13 (x : Bool) (v : Value) (H : Hp) : Prop := v = .bool x
def r13 (g : ipsix_Head → (List UInt8) → (List UInt8) → Option Bool) : List SArg → Option SRes
  | [.v (.agg ⟨[.int .i64 a0_1, .int .i64 a0_2, .int .i64 a0_3, .int .i64 a0_4, .bool a0_5, .int .u64 a0_6, .int .u64 a0_7, .bool a0_8, .int .u64 a0_9, .int .u64 a0_10]⟩), .v (.string ⟨⟨a1_1⟩⟩), .v (.string ⟨⟨a2_1⟩⟩)] => match g (ipsix_Head.mk a0_1 a0_2 a0_3 a0_4 (api_Addr.mk a0_5 a0_6 a0_7) (api_Addr.mk a0_8 a0_9 a0_10)) a1_1 a2_1 with | some x => some ⟨.bool x, [], []⟩ | none => none
  | _ => none
def s13 (g : ipsix_Head → (List UInt8) → (List UInt8) → Option Bool) : Summ := ⟨[.v, .v, .v], r13 g⟩
theorem r13_eq {g : ipsix_Head → (List UInt8) → (List UInt8) → Option Bool} {a0_1 : Int} {a0_2 : Int} {a0_3 : Int} {a0_4 : Int} {a0_5 : Bool} {a0_6 : Int} {a0_7 : Int} {a0_8 : Bool} {a0_9 : Int} {a0_10 : Int} {a1_1 : List UInt8} {a2_1 : List UInt8} {x : Bool} (hx : g (ipsix_Head.mk a0_1 a0_2 a0_3 a0_4 (api_Addr.mk a0_5 a0_6 a0_7) (api_Addr.mk a0_8 a0_9 a0_10)) a1_1 a2_1 = some x) : (s13 g).run [.v (.agg ⟨[.int .i64 a0_1, .int .i64 a0_2, .int .i64 a0_3, .int .i64 a0_4, .bool a0_5, .int .u64 a0_6, .int .u64 a0_7, .bool a0_8, .int .u64 a0_9, .int .u64 a0_10]⟩), .v (.string ⟨⟨a1_1⟩⟩), .v (.string ⟨⟨a2_1⟩⟩)] = some ⟨.bool x, [], []⟩ := by
  show r13 g [.v (.agg ⟨[.int .i64 a0_1, .int .i64 a0_2, .int .i64 a0_3, .int .i64 a0_4, .bool a0_5, .int .u64 a0_6, .int .u64 a0_7, .bool a0_8, .int .u64 a0_9, .int .u64 a0_10]⟩), .v (.string ⟨⟨a1_1⟩⟩), .v (.string ⟨⟨a2_1⟩⟩)] = _
  simp only [r13, hx]
abbrev sums13 (law06_awake : Option Bool) (ipsix_Put : ipsix_Head → (List UInt8) → Option ((List UInt8) × Int)) (law06_of : ipsix_Head → Option ipsix_Head) (R06_Put : ipsix_Head → (List UInt8) → Option ((List UInt8) × Int)) (ipsix_Get : (List UInt8) → Option (ipsix_Head × (List UInt8) × Int)) (R06_Get : (List UInt8) → Option (ipsix_Head × (List UInt8) × Int)) (law06_back : ipsix_Head → Option ipsix_Head) : List (Nat × Summ) := [(49, s49 law06_awake), (50, s50 ipsix_Put), (51, s51 law06_of), (52, s52 R06_Put), (53, s53 ipsix_Get), (54, s54 R06_Get), (55, s55 law06_back)]
theorem leads13 (law06_awake : Option Bool) (ipsix_Put : ipsix_Head → (List UInt8) → Option ((List UInt8) × Int)) (law06_of : ipsix_Head → Option ipsix_Head) (R06_Put : ipsix_Head → (List UInt8) → Option ((List UInt8) × Int)) (ipsix_Get : (List UInt8) → Option (ipsix_Head × (List UInt8) × Int)) (R06_Get : (List UInt8) → Option (ipsix_Head × (List UInt8) × Int)) (law06_back : ipsix_Head → Option ipsix_Head) (hS : SumsOK Try.prog (aget (sums13 law06_awake ipsix_Put law06_of R06_Put ipsix_Get R06_Get law06_back))) (ha0 : ipsix_Head) (payload : List UInt8) (s : List UInt8) (res : Bool) (h : law06_IpsixTellsF law06_awake ipsix_Put law06_of R06_Put ipsix_Get R06_Get law06_back ha0 payload s = some res) :
    Leads Try.prog 13 0 ⟨⟨13, 78, [(0, .agg ⟨[.int .i64 ha0.Class, .int .i64 ha0.Label, .int .i64 ha0.Next, .int .i64 ha0.Hop, .bool ha0.Src.V6, .int .u64 ha0.Src.Hi, .int .u64 ha0.Src.Lo, .bool ha0.Dst.V6, .int .u64 ha0.Dst.Hi, .int .u64 ha0.Dst.Lo]⟩), (1, .string ⟨⟨payload⟩⟩), (2, .string ⟨⟨s⟩⟩)], [.code k13_17], [], false, none⟩, [], [], 0⟩ (fun v H _ => post13 res v H) := by
  unfold law06_IpsixTellsF at h
  refine ev_ok tab_ok hS true 3000 ?_
  conv => whnf
  refine br.h h ?_ ?_ ?_
  · rfl
  · clear h; intro hb h; conv => whnf
    obtain ⟨a, hy, h2⟩ := obind.elim h; clear h; have h := h2; clear h2
    refine sumK.introF [] (sumRun_of (aqs := []) ra_nil (r49_eq hy) rfl rfl rfl rfl) ?_
    conv => whnf
    all_goals (cases h)
    all_goals exact rfl
  clear h; intro hb h; conv => whnf
  refine br.h h ?_ ?_ ?_
  · rfl
  · clear h; intro hb h; conv => whnf
    obtain ⟨a1, hy, h2⟩ := obind.elim h; clear h; have h := h2; clear h2
    refine sumK.introF [] (sumRun_of (aqs := []) ra_nil (r49_eq hy) rfl rfl rfl rfl) ?_
    conv => whnf
    all_goals (cases h)
    all_goals exact rfl
  clear h; intro hb h; conv => whnf
  obtain ⟨xo, hy, h2⟩ := obind.elim h; clear h; have h := h2; clear h2
  refine sumK.introF [] (sumRun_of (aqs := [.v (.agg ⟨[.int .i64 ha0.Class, .int .i64 ha0.Label, .int .i64 ha0.Next, .int .i64 ha0.Hop, .bool ha0.Src.V6, .int .u64 ha0.Src.Hi, .int .u64 ha0.Src.Lo, .bool ha0.Dst.V6, .int .u64 ha0.Dst.Hi, .int .u64 ha0.Dst.Lo]⟩)]) (ra_cons rfl ra_nil) (r51_eq hy) rfl rfl rfl rfl) ?_
  conv => whnf
  obtain ⟨p, hy, h2⟩ := obind.elim h; clear h; have h := h2; clear h2
  refine sumK.introF [] (sumRun_of (aqs := [.v (.agg ⟨[.int .i64 xo.Class, .int .i64 xo.Label, .int .i64 xo.Next, .int .i64 xo.Hop, .bool xo.Src.V6, .int .u64 xo.Src.Hi, .int .u64 xo.Src.Lo, .bool xo.Dst.V6, .int .u64 xo.Dst.Hi, .int .u64 xo.Dst.Lo]⟩), .v (.string ⟨⟨payload⟩⟩)]) (ra_cons rfl (ra_cons rfl ra_nil)) (r50_eq hy) rfl rfl rfl rfl) ?_
  conv => whnf
  obtain ⟨p1, hy, h2⟩ := obind.elim h; clear h; have h := h2; clear h2
  refine sumK.introF [] (sumRun_of (aqs := [.v (.agg ⟨[.int .i64 ha0.Class, .int .i64 ha0.Label, .int .i64 ha0.Next, .int .i64 ha0.Hop, .bool ha0.Src.V6, .int .u64 ha0.Src.Hi, .int .u64 ha0.Src.Lo, .bool ha0.Dst.V6, .int .u64 ha0.Dst.Hi, .int .u64 ha0.Dst.Lo]⟩), .v (.string ⟨⟨payload⟩⟩)]) (ra_cons rfl (ra_cons rfl ra_nil)) (r52_eq hy) rfl rfl rfl rfl) ?_
  conv => whnf
  obtain ⟨xg, hy, h2⟩ := obind.elim h; clear h; have h := h2; clear h2
  refine sumK.introF [] (sumRun_of (aqs := [.v (.string ⟨⟨s⟩⟩)]) (ra_cons rfl ra_nil) (r53_eq hy) rfl rfl rfl rfl) ?_
  conv => whnf
  obtain ⟨xg1, hy, h2⟩ := obind.elim h; clear h; have h := h2; clear h2
  refine sumK.introF [] (sumRun_of (aqs := [.v (.string ⟨⟨s⟩⟩)]) (ra_cons rfl ra_nil) (r54_eq hy) rfl rfl rfl rfl) ?_
  conv => whnf
  refine br.h2 h ?_ ?_ ?_
  · rfl
  · clear h; intro hb h; conv => whnf
    all_goals (cases h)
    all_goals exact rfl
  clear h; intro hb h; conv => whnf
  refine br.h2 h ?_ ?_ ?_
  · rfl
  · clear h; intro hb h; conv => whnf
    all_goals (cases h)
    all_goals exact rfl
  clear h; intro hb h; conv => whnf
  obtain ⟨b, hy, h2⟩ := obind.elim h; clear h; have h := h2; clear h2
  refine sumK.introF [] (sumRun_of (aqs := [.v (.agg ⟨[.int .i64 xg.1.Class, .int .i64 xg.1.Label, .int .i64 xg.1.Next, .int .i64 xg.1.Hop, .bool xg.1.Src.V6, .int .u64 xg.1.Src.Hi, .int .u64 xg.1.Src.Lo, .bool xg.1.Dst.V6, .int .u64 xg.1.Dst.Hi, .int .u64 xg.1.Dst.Lo]⟩)]) (ra_cons rfl ra_nil) (r55_eq hy) rfl rfl rfl rfl) ?_
  conv => whnf
  let t : Bool := (b.Class == xg1.1.Class) && ((b.Label == xg1.1.Label) && ((b.Next == xg1.1.Next) && ((b.Hop == xg1.1.Hop) && ((b.Src.V6 == xg1.1.Src.V6) && ((b.Src.Hi == xg1.1.Src.Hi) && ((b.Src.Lo == xg1.1.Src.Lo) && ((b.Dst.V6 == xg1.1.Dst.V6) && ((b.Dst.Hi == xg1.1.Dst.Hi) && ((b.Dst.Lo == xg1.1.Dst.Lo) && true)))))))))
  refine br.h2 h ?_ ?_ ?_
  · rfl
  · clear h; intro hb h; conv => whnf
    all_goals (cases h)
    all_goals exact rfl
  clear h; intro hb h; conv => whnf
  refine br.h2 h ?_ ?_ ?_
  · rfl
  · clear h; intro hb h; conv => whnf
    all_goals (cases h)
    all_goals exact rfl
  clear h; intro hb h; conv => whnf
  refine br.h2 h ?_ ?_ ?_
  · rfl
  · clear h; intro hb h; conv => whnf
    all_goals (cases h)
    all_goals exact rfl
  clear h; intro hb h; conv => whnf
  obtain ⟨a2, hy, h2⟩ := obind.elim h; clear h; have h := h2; clear h2
  refine sumK.introF [] (sumRun_of (aqs := []) ra_nil (r49_eq hy) rfl rfl rfl rfl) ?_
  conv => whnf
  all_goals (cases h)
  all_goals exact rfl
theorem ok13 (law06_awake : Option Bool) (ipsix_Put : ipsix_Head → (List UInt8) → Option ((List UInt8) × Int)) (law06_of : ipsix_Head → Option ipsix_Head) (R06_Put : ipsix_Head → (List UInt8) → Option ((List UInt8) × Int)) (ipsix_Get : (List UInt8) → Option (ipsix_Head × (List UInt8) × Int)) (R06_Get : (List UInt8) → Option (ipsix_Head × (List UInt8) × Int)) (law06_back : ipsix_Head → Option ipsix_Head) (hS : SumsOK Try.prog (aget (sums13 law06_awake ipsix_Put law06_of R06_Put ipsix_Get R06_Get law06_back))) : SumOK Try.prog 13 (s13 (law06_IpsixTellsF law06_awake ipsix_Put law06_of R06_Put ipsix_Get R06_Get law06_back)) := by
  refine SumOK.of_leads tab_ok (fun ar r ha hr => ?_) ⟨Try.f13, rfl, by decide, rfl⟩
  simp only [s13] at ha hr
  unfold r13 at hr
  split at hr <;> try (cases hr; done)
  split at hr <;> cases hr
  rename_i x h
  refine ⟨_, rfl, (leads13 law06_awake ipsix_Put law06_of R06_Put ipsix_Get R06_Get law06_back hS _ _ _ x h).mono fun v H t hp => ?_⟩
  cases hp
  exact Res.val rfl trivial
def law06_IpsixTells : ipsix_Head → (List UInt8) → (List UInt8) → Option Bool := law06_IpsixTellsF law06_awake ipsix_Put law06_of R06_Put ipsix_Get R06_Get law06_back
theorem lift13 : SumOK Try.prog 13 (s13 law06_IpsixTells) := ok13 law06_awake ipsix_Put law06_of R06_Put ipsix_Get R06_Get law06_back (SumsOK.of_tab ⟨lift49, lift50, lift51, lift52, lift53, lift54, lift55, trivial⟩)
end Go.Vm.Code

namespace Go.Vm.Code
open Go Go.Vm Go.Proofs
set_option maxRecDepth 100000
set_option maxHeartbeats 4000000
set_option linter.unusedVariables false

/-! cloakroom/cloakroomlaw06.IpsixBack -/
def law06_IpsixBackF (law06_awake : Option Bool) (ipsix_Put : ipsix_Head → (List UInt8) → Option ((List UInt8) × Int)) (law06_of : ipsix_Head → Option ipsix_Head) (ipsix_Get : (List UInt8) → Option (ipsix_Head × (List UInt8) × Int)) (law06_back : ipsix_Head → Option ipsix_Head) (ha0 : ipsix_Head) (payload : List UInt8) (more : List UInt8) (s : List UInt8) (ata4 : Int) : Option Bool :=
  cond (decide ((payload.length : Int) > 200))
    (
    (law06_awake).bind fun a =>
    some (a))
    (
    cond (decide ((more.length : Int) > 200))
      (
      (law06_awake).bind fun a1 =>
      some (a1))
      (
      cond (decide ((s.length : Int) > 200))
        (
        (law06_awake).bind fun a2 =>
        some (a2))
        (
        (ipsix_Get s).bind fun xg =>
        cond (xg.2.2 == 0)
          (
          (ipsix_Put xg.1 xg.2.1).bind fun p =>
          cond (p.2 != 0)
            (
            some (false))
            (
            let t := decide ((p.1.length : Int) > (s.length : Int))
            cond (t)
              (
              some (false))
              (
              oreq (decide ((0 : Int) ≤ (p.1.length : Int) ∧ (p.1.length : Int) ≤ (s.length : Int))) <|
              cond (!(p.1 == (s.take p.1.length)))
                (
                some (false))
                (
                (law06_of ha0).bind fun xo =>
                (ipsix_Put xo payload).bind fun p1 =>
                cond (p1.2 != 0)
                  (
                  cond (p1.1 == [])
                    (
                    (law06_awake).bind fun a3 =>
                    some (a3))
                    (
                    some (false)))
                  (
                  oreq (decide (p1.1.length + more.length < 2 ^ 63)) <|
                  (ipsix_Get (p1.1 ++ more)).bind fun xg1 =>
                  cond (xg1.2.2 != 0)
                    (
                    some (false))
                    (
                    (law06_back xg1.1).bind fun b =>
                    let t1 := !((b.Class == ha0.Class) && ((b.Label == ha0.Label) && ((b.Next == ha0.Next) && ((b.Hop == ha0.Hop) && ((b.Src.V6 == ha0.Src.V6) && ((b.Src.Hi == ha0.Src.Hi) && ((b.Src.Lo == ha0.Src.Lo) && ((b.Dst.V6 == ha0.Dst.V6) && ((b.Dst.Hi == ha0.Dst.Hi) && ((b.Dst.Lo == ha0.Dst.Lo) && true))))))))))
                    cond (t1)
                      (
                      some (false))
                      (
                      cond (!(xg1.2.1 == payload))
                        (
                        some (false))
                        (
                        let t2 := (p1.1.length : Int) != (wI .i64 (40 + (payload.length : Int)))
                        cond (t2)
                          (
                          some (false))
                          (
                          oreq (!(decide ((p1.1.length : Int) = 0))) <|
                          oreq (decide ((0 : Int) ≤ ((wI .i64 ata4).tmod (p1.1.length : Int)) ∧ ((wI .i64 ata4).tmod (p1.1.length : Int)) ≤ (p1.1.length : Int))) <|
                          let t3 := p1.1.take ((wI .i64 ata4).tmod (p1.1.length : Int)).toNat
                          (ipsix_Get t3).bind fun xg2 =>
                          cond (xg2.2.2 == 2)
                            (
                            (law06_awake).bind fun a4 =>
                            some (a4))
                            (
                            some (false)))))))))))
          (
          (law06_of ha0).bind fun xo1 =>
          (ipsix_Put xo1 payload).bind fun p2 =>
          cond (p2.2 != 0)
            (
            cond (p2.1 == [])
              (
              (law06_awake).bind fun a5 =>
              some (a5))
              (
              some (false)))
            (
            oreq (decide (p2.1.length + more.length < 2 ^ 63)) <|
            (ipsix_Get (p2.1 ++ more)).bind fun xg3 =>
            cond (xg3.2.2 != 0)
              (
              some (false))
              (
              (law06_back xg3.1).bind fun b1 =>
              let t4 := !((b1.Class == ha0.Class) && ((b1.Label == ha0.Label) && ((b1.Next == ha0.Next) && ((b1.Hop == ha0.Hop) && ((b1.Src.V6 == ha0.Src.V6) && ((b1.Src.Hi == ha0.Src.Hi) && ((b1.Src.Lo == ha0.Src.Lo) && ((b1.Dst.V6 == ha0.Dst.V6) && ((b1.Dst.Hi == ha0.Dst.Hi) && ((b1.Dst.Lo == ha0.Dst.Lo) && true))))))))))
              cond (t4)
                (
                some (false))
                (
                cond (!(xg3.2.1 == payload))
                  (
                  some (false))
                  (
                  let t5 := (p2.1.length : Int) != (wI .i64 (40 + (payload.length : Int)))
                  cond (t5)
                    (
                    some (false))
                    (
                    oreq (!(decide ((p2.1.length : Int) = 0))) <|
                    oreq (decide ((0 : Int) ≤ ((wI .i64 ata4).tmod (p2.1.length : Int)) ∧ ((wI .i64 ata4).tmod (p2.1.length : Int)) ≤ (p2.1.length : Int))) <|
                    let t6 := p2.1.take ((wI .i64 ata4).tmod (p2.1.length : Int)).toNat
                    (ipsix_Get t6).bind fun xg4 =>
                    cond (xg4.2.2 == 2)
                      (
                      (law06_awake).bind fun a6 =>
                      some (a6))
                      (
                      some (false)))))))))))
def post14 (x : Bool) (v : Value) (H : Hp) : Prop := v = .bool x
def r14 (g : ipsix_Head → (List UInt8) → (List UInt8) → (List UInt8) → Int → Option Bool) : List SArg → Option SRes
  | [.v (.agg ⟨[.int .i64 a0_1, .int .i64 a0_2, .int .i64 a0_3, .int .i64 a0_4, .bool a0_5, .int .u64 a0_6, .int .u64 a0_7, .bool a0_8, .int .u64 a0_9, .int .u64 a0_10]⟩), .v (.string ⟨⟨a1_1⟩⟩), .v (.string ⟨⟨a2_1⟩⟩), .v (.string ⟨⟨a3_1⟩⟩), .v (.int .u16 a4_1)] => match g (ipsix_Head.mk a0_1 a0_2 a0_3 a0_4 (api_Addr.mk a0_5 a0_6 a0_7) (api_Addr.mk a0_8 a0_9 a0_10)) a1_1 a2_1 a3_1 a4_1 with | some x => some ⟨.bool x, [], []⟩ | none => none
  | _ => none
def s14 (g : ipsix_Head → (List UInt8) → (List UInt8) → (List UInt8) → Int → Option Bool) : Summ := ⟨[.v, .v, .v, .v, .v], r14 g⟩
theorem r14_eq {g : ipsix_Head → (List UInt8) → (List UInt8) → (List UInt8) → Int → Option Bool} {a0_1 : Int} {a0_2 : Int} {a0_3 : Int} {a0_4 : Int} {a0_5 : Bool} {a0_6 : Int} {a0_7 : Int} {a0_8 : Bool} {a0_9 : Int} {a0_10 : Int} {a1_1 : List UInt8} {a2_1 : List UInt8} {a3_1 : List UInt8} {a4_1 : Int} {x : Bool} (hx : g (ipsix_Head.mk a0_1 a0_2 a0_3 a0_4 (api_Addr.mk a0_5 a0_6 a0_7) (api_Addr.mk a0_8 a0_9 a0_10)) a1_1 a2_1 a3_1 a4_1 = some x) : (s14 g).run [.v (.agg ⟨[.int .i64 a0_1, .int .i64 a0_2, .int .i64 a0_3, .int .i64 a0_4, .bool a0_5, .int .u64 a0_6, .int .u64 a0_7, .bool a0_8, .int .u64 a0_9, .int .u64 a0_10]⟩), .v (.string ⟨⟨a1_1⟩⟩), .v (.string ⟨⟨a2_1⟩⟩), .v (.string ⟨⟨a3_1⟩⟩), .v (.int .u16 a4_1)] = some ⟨.bool x, [], []⟩ := by
  show r14 g [.v (.agg ⟨[.int .i64 a0_1, .int .i64 a0_2, .int .i64 a0_3, .int .i64 a0_4, .bool a0_5, .int .u64 a0_6, .int .u64 a0_7, .bool a0_8, .int .u64 a0_9, .int .u64 a0_10]⟩), .v (.string ⟨⟨a1_1⟩⟩), .v (.string ⟨⟨a2_1⟩⟩), .v (.string ⟨⟨a3_1⟩⟩), .v (.int .u16 a4_1)] = _
  simp only [r14, hx]
abbrev sums14 (law06_awake : Option Bool) (ipsix_Put : ipsix_Head → (List UInt8) → Option ((List UInt8) × Int)) (law06_of : ipsix_Head → Option ipsix_Head) (ipsix_Get : (List UInt8) → Option (ipsix_Head × (List UInt8) × Int)) (law06_back : ipsix_Head → Option ipsix_Head) : List (Nat × Summ) := [(49, s49 law06_awake), (50, s50 ipsix_Put), (51, s51 law06_of), (53, s53 ipsix_Get), (55, s55 law06_back)]
theorem leads14 (law06_awake : Option Bool) (ipsix_Put : ipsix_Head → (List UInt8) → Option ((List UInt8) × Int)) (law06_of : ipsix_Head → Option ipsix_Head) (ipsix_Get : (List UInt8) → Option (ipsix_Head × (List UInt8) × Int)) (law06_back : ipsix_Head → Option ipsix_Head) (hS : SumsOK Try.prog (aget (sums14 law06_awake ipsix_Put law06_of ipsix_Get law06_back))) (ha0 : ipsix_Head) (payload : List UInt8) (more : List UInt8) (s : List UInt8) (ata4 : Int) (res : Bool) (h : law06_IpsixBackF law06_awake ipsix_Put law06_of ipsix_Get law06_back ha0 payload more s ata4 = some res) :
    Leads Try.prog 14 0 ⟨⟨14, 129, [(0, .agg ⟨[.int .i64 ha0.Class, .int .i64 ha0.Label, .int .i64 ha0.Next, .int .i64 ha0.Hop, .bool ha0.Src.V6, .int .u64 ha0.Src.Hi, .int .u64 ha0.Src.Lo, .bool ha0.Dst.V6, .int .u64 ha0.Dst.Hi, .int .u64 ha0.Dst.Lo]⟩), (1, .string ⟨⟨payload⟩⟩), (2, .string ⟨⟨more⟩⟩), (3, .string ⟨⟨s⟩⟩), (4, .int .u16 ata4)], [.code k14_40], [], false, none⟩, [], [], 0⟩ (fun v H _ => post14 res v H) := by
  unfold law06_IpsixBackF at h
  refine ev_ok tab_ok hS true 3000 ?_
  conv => whnf
  refine br.h h ?_ ?_ ?_
  · rfl
  · clear h; intro hb h; conv => whnf
    obtain ⟨a, hy, h2⟩ := obind.elim h; clear h; have h := h2; clear h2
    refine sumK.introF [] (sumRun_of (aqs := []) ra_nil (r49_eq hy) rfl rfl rfl rfl) ?_
    conv => whnf
    all_goals (cases h)
    all_goals exact rfl
  clear h; intro hb h; conv => whnf
  refine br.h h ?_ ?_ ?_
  · rfl
  · clear h; intro hb h; conv => whnf
    obtain ⟨a1, hy, h2⟩ := obind.elim h; clear h; have h := h2; clear h2
    refine sumK.introF [] (sumRun_of (aqs := []) ra_nil (r49_eq hy) rfl rfl rfl rfl) ?_
    conv => whnf
    all_goals (cases h)
    all_goals exact rfl
  clear h; intro hb h; conv => whnf
  refine br.h h ?_ ?_ ?_
  · rfl
  · clear h; intro hb h; conv => whnf
    obtain ⟨a2, hy, h2⟩ := obind.elim h; clear h; have h := h2; clear h2
    refine sumK.introF [] (sumRun_of (aqs := []) ra_nil (r49_eq hy) rfl rfl rfl rfl) ?_
    conv => whnf
    all_goals (cases h)
    all_goals exact rfl
  clear h; intro hb h; conv => whnf
  obtain ⟨xg, hy, h2⟩ := obind.elim h; clear h; have h := h2; clear h2
  refine sumK.introF [] (sumRun_of (aqs := [.v (.string ⟨⟨s⟩⟩)]) (ra_cons rfl ra_nil) (r53_eq hy) rfl rfl rfl rfl) ?_
  conv => whnf
  refine br.h2 h ?_ ?_ ?_
  · rfl
  · clear h; intro hb h; conv => whnf
    obtain ⟨xo1, hy, h2⟩ := obind.elim h; clear h; have h := h2; clear h2
    refine sumK.introF [] (sumRun_of (aqs := [.v (.agg ⟨[.int .i64 ha0.Class, .int .i64 ha0.Label, .int .i64 ha0.Next, .int .i64 ha0.Hop, .bool ha0.Src.V6, .int .u64 ha0.Src.Hi, .int .u64 ha0.Src.Lo, .bool ha0.Dst.V6, .int .u64 ha0.Dst.Hi, .int .u64 ha0.Dst.Lo]⟩)]) (ra_cons rfl ra_nil) (r51_eq hy) rfl rfl rfl rfl) ?_
    conv => whnf
    obtain ⟨p2, hy, h2⟩ := obind.elim h; clear h; have h := h2; clear h2
    refine sumK.introF [] (sumRun_of (aqs := [.v (.agg ⟨[.int .i64 xo1.Class, .int .i64 xo1.Label, .int .i64 xo1.Next, .int .i64 xo1.Hop, .bool xo1.Src.V6, .int .u64 xo1.Src.Hi, .int .u64 xo1.Src.Lo, .bool xo1.Dst.V6, .int .u64 xo1.Dst.Hi, .int .u64 xo1.Dst.Lo]⟩), .v (.string ⟨⟨payload⟩⟩)]) (ra_cons rfl (ra_cons rfl ra_nil)) (r50_eq hy) rfl rfl rfl rfl) ?_
    conv => whnf
    refine br.h h ?_ ?_ ?_
    · rfl
    · clear h; intro hb h; conv => whnf
      refine br.h2 h ?_ ?_ ?_
      · rfl
      · clear h; intro hb h; conv => whnf
        all_goals (cases h)
        all_goals exact rfl
      clear h; intro hb h; conv => whnf
      obtain ⟨a5, hy, h2⟩ := obind.elim h; clear h; have h := h2; clear h2
      refine sumK.introF [] (sumRun_of (aqs := []) ra_nil (r49_eq hy) rfl rfl rfl rfl) ?_
      conv => whnf
      all_goals (cases h)
      all_goals exact rfl
    clear h; intro hb h; conv => whnf
    replace h := oreq.elim h; have hb := h.1; replace h := h.2
    first | (refine req.intro hb ?_; conv => whnf) | skip
    obtain ⟨xg3, hy, h2⟩ := obind.elim h; clear h; have h := h2; clear h2
    refine sumK.introF [] (sumRun_of (aqs := [.v (.string ⟨⟨p2.1 ++ more⟩⟩)]) (ra_cons rfl ra_nil) (r53_eq hy) rfl rfl rfl rfl) ?_
    conv => whnf
    refine br.h h ?_ ?_ ?_
    · rfl
    · clear h; intro hb h; conv => whnf
      all_goals (cases h)
      all_goals exact rfl
    clear h; intro hb h; conv => whnf
    obtain ⟨b1, hy, h2⟩ := obind.elim h; clear h; have h := h2; clear h2
    refine sumK.introF [] (sumRun_of (aqs := [.v (.agg ⟨[.int .i64 xg3.1.Class, .int .i64 xg3.1.Label, .int .i64 xg3.1.Next, .int .i64 xg3.1.Hop, .bool xg3.1.Src.V6, .int .u64 xg3.1.Src.Hi, .int .u64 xg3.1.Src.Lo, .bool xg3.1.Dst.V6, .int .u64 xg3.1.Dst.Hi, .int .u64 xg3.1.Dst.Lo]⟩)]) (ra_cons rfl ra_nil) (r55_eq hy) rfl rfl rfl rfl) ?_
    conv => whnf
    let t4 : Bool := !((b1.Class == ha0.Class) && ((b1.Label == ha0.Label) && ((b1.Next == ha0.Next) && ((b1.Hop == ha0.Hop) && ((b1.Src.V6 == ha0.Src.V6) && ((b1.Src.Hi == ha0.Src.Hi) && ((b1.Src.Lo == ha0.Src.Lo) && ((b1.Dst.V6 == ha0.Dst.V6) && ((b1.Dst.Hi == ha0.Dst.Hi) && ((b1.Dst.Lo == ha0.Dst.Lo) && true))))))))))
    refine br.h h ?_ ?_ ?_
    · rfl
    · clear h; intro hb h; conv => whnf
      all_goals (cases h)
      all_goals exact rfl
    clear h; intro hb h; conv => whnf
    refine br.h h ?_ ?_ ?_
    · rfl
    · clear h; intro hb h; conv => whnf
      all_goals (cases h)
      all_goals exact rfl
    clear h; intro hb h; conv => whnf
    let t5 : Bool := (p2.1.length : Int) != (wI .i64 (40 + (payload.length : Int)))
    refine br.h h ?_ ?_ ?_
    · rfl
    · clear h; intro hb h; conv => whnf
      all_goals (cases h)
      all_goals exact rfl
    clear h; intro hb h; conv => whnf
    replace h := oreq.elim h; have hb := h.1; replace h := h.2
    first | (refine req.intro hb ?_; conv => whnf) | skip
    replace h := oreq.elim h; have hb := h.1; replace h := h.2
    first | (refine req.intro hb ?_; conv => whnf) | skip
    let t6 : List UInt8 := p2.1.take ((wI .i64 ata4).tmod (p2.1.length : Int)).toNat
    obtain ⟨xg4, hy, h2⟩ := obind.elim h; clear h; have h := h2; clear h2
    refine sumK.introF [] (sumRun_of (aqs := [.v (.string ⟨⟨t6⟩⟩)]) (ra_cons rfl ra_nil) (r53_eq hy) rfl rfl rfl rfl) ?_
    conv => whnf
    refine br.h2 h ?_ ?_ ?_
    · rfl
    · clear h; intro hb h; conv => whnf
      all_goals (cases h)
      all_goals exact rfl
    clear h; intro hb h; conv => whnf
    obtain ⟨a6, hy, h2⟩ := obind.elim h; clear h; have h := h2; clear h2
    refine sumK.introF [] (sumRun_of (aqs := []) ra_nil (r49_eq hy) rfl rfl rfl rfl) ?_
    conv => whnf
    all_goals (cases h)
    all_goals exact rfl
  clear h; intro hb h; conv => whnf
  obtain ⟨p, hy, h2⟩ := obind.elim h; clear h; have h := h2; clear h2
  refine sumK.introF [] (sumRun_of (aqs := [.v (.agg ⟨[.int .i64 xg.1.Class, .int .i64 xg.1.Label, .int .i64 xg.1.Next, .int .i64 xg.1.Hop, .bool xg.1.Src.V6, .int .u64 xg.1.Src.Hi, .int .u64 xg.1.Src.Lo, .bool xg.1.Dst.V6, .int .u64 xg.1.Dst.Hi, .int .u64 xg.1.Dst.Lo]⟩), .v (.string ⟨⟨xg.2.1⟩⟩)]) (ra_cons rfl (ra_cons rfl ra_nil)) (r50_eq hy) rfl rfl rfl rfl) ?_
  conv => whnf
  refine br.h h ?_ ?_ ?_
  · rfl
  · clear h; intro hb h; conv => whnf
    all_goals (cases h)
    all_goals exact rfl
  clear h; intro hb h; conv => whnf
  let t : Bool := decide ((p.1.length : Int) > (s.length : Int))
  refine br.h h ?_ ?_ ?_
  · rfl
  · clear h; intro hb h; conv => whnf
    all_goals (cases h)
    all_goals exact rfl
  clear h; intro hb h; conv => whnf
  replace h := oreq.elim h; have hb := h.1; replace h := h.2
  first | (refine req.intro hb ?_; conv => whnf) | skip
  refine br.h h ?_ ?_ ?_
  · rfl
  · clear h; intro hb h; conv => whnf
    all_goals (cases h)
    all_goals exact rfl
  clear h; intro hb h; conv => whnf
  obtain ⟨xo, hy, h2⟩ := obind.elim h; clear h; have h := h2; clear h2
  refine sumK.introF [] (sumRun_of (aqs := [.v (.agg ⟨[.int .i64 ha0.Class, .int .i64 ha0.Label, .int .i64 ha0.Next, .int .i64 ha0.Hop, .bool ha0.Src.V6, .int .u64 ha0.Src.Hi, .int .u64 ha0.Src.Lo, .bool ha0.Dst.V6, .int .u64 ha0.Dst.Hi, .int .u64 ha0.Dst.Lo]⟩)]) (ra_cons rfl ra_nil) (r51_eq hy) rfl rfl rfl rfl) ?_
  conv => whnf
  obtain ⟨p1, hy, h2⟩ := obind.elim h; clear h; have h := h2; clear h2
  refine sumK.introF [] (sumRun_of (aqs := [.v (.agg ⟨[.int .i64 xo.Class, .int .i64 xo.Label, .int .i64 xo.Next, .int .i64 xo.Hop, .bool xo.Src.V6, .int .u64 xo.Src.Hi, .int .u64 xo.Src.Lo, .bool xo.Dst.V6, .int .u64 xo.Dst.Hi, .int .u64 xo.Dst.Lo]⟩), .v (.string ⟨⟨payload⟩⟩)]) (ra_cons rfl (ra_cons rfl ra_nil)) (r50_eq hy) rfl rfl rfl rfl) ?_
  conv => whnf
  refine br.h h ?_ ?_ ?_
  · rfl
  · clear h; intro hb h; conv => whnf
    refine br.h2 h ?_ ?_ ?_
    · rfl
    · clear h; intro hb h; conv => whnf
      all_goals (cases h)
      all_goals exact rfl
    clear h; intro hb h; conv => whnf
    obtain ⟨a3, hy, h2⟩ := obind.elim h; clear h; have h := h2; clear h2
    refine sumK.introF [] (sumRun_of (aqs := []) ra_nil (r49_eq hy) rfl rfl rfl rfl) ?_
    conv => whnf
    all_goals (cases h)
    all_goals exact rfl
  clear h; intro hb h; conv => whnf
  replace h := oreq.elim h; have hb := h.1; replace h := h.2
  first | (refine req.intro hb ?_; conv => whnf) | skip
  obtain ⟨xg1, hy, h2⟩ := obind.elim h; clear h; have h := h2; clear h2
  refine sumK.introF [] (sumRun_of (aqs := [.v (.string ⟨⟨p1.1 ++ more⟩⟩)]) (ra_cons rfl ra_nil) (r53_eq hy) rfl rfl rfl rfl) ?_
  conv => whnf
  refine br.h h ?_ ?_ ?_
  · rfl
  · clear h; intro hb h; conv => whnf
    all_goals (cases h)
    all_goals exact rfl
  clear h; intro hb h; conv => whnf
  obtain ⟨b, hy, h2⟩ := obind.elim h; clear h; have h := h2; clear h2
  refine sumK.introF [] (sumRun_of (aqs := [.v (.agg ⟨[.int .i64 xg1.1.Class, .int .i64 xg1.1.Label, .int .i64 xg1.1.Next, .int .i64 xg1.1.Hop, .bool xg1.1.Src.V6, .int .u64 xg1.1.Src.Hi, .int .u64 xg1.1.Src.Lo, .bool xg1.1.Dst.V6, .int .u64 xg1.1.Dst.Hi, .int .u64 xg1.1.Dst.Lo]⟩)]) (ra_cons rfl ra_nil) (r55_eq hy) rfl rfl rfl rfl) ?_
  conv => whnf
  let t1 : Bool := !((b.Class == ha0.Class) && ((b.Label == ha0.Label) && ((b.Next == ha0.Next) && ((b.Hop == ha0.Hop) && ((b.Src.V6 == ha0.Src.V6) && ((b.Src.Hi == ha0.Src.Hi) && ((b.Src.Lo == ha0.Src.Lo) && ((b.Dst.V6 == ha0.Dst.V6) && ((b.Dst.Hi == ha0.Dst.Hi) && ((b.Dst.Lo == ha0.Dst.Lo) && true))))))))))
  refine br.h h ?_ ?_ ?_
  · rfl
  · clear h; intro hb h; conv => whnf
    all_goals (cases h)
    all_goals exact rfl
  clear h; intro hb h; conv => whnf
  refine br.h h ?_ ?_ ?_
  · rfl
  · clear h; intro hb h; conv => whnf
    all_goals (cases h)
    all_goals exact rfl
  clear h; intro hb h; conv => whnf
  let t2 : Bool := (p1.1.length : Int) != (wI .i64 (40 + (payload.length : Int)))
  refine br.h h ?_ ?_ ?_
  · rfl
  · clear h; intro hb h; conv => whnf
    all_goals (cases h)
    all_goals exact rfl
  clear h; intro hb h; conv => whnf
  replace h := oreq.elim h; have hb := h.1; replace h := h.2
  first | (refine req.intro hb ?_; conv => whnf) | skip
  replace h := oreq.elim h; have hb := h.1; replace h := h.2
  first | (refine req.intro hb ?_; conv => whnf) | skip
  let t3 : List UInt8 := p1.1.take ((wI .i64 ata4).tmod (p1.1.length : Int)).toNat
  obtain ⟨xg2, hy, h2⟩ := obind.elim h; clear h; have h := h2; clear h2
  refine sumK.introF [] (sumRun_of (aqs := [.v (.string ⟨⟨t3⟩⟩)]) (ra_cons rfl ra_nil) (r53_eq hy) rfl rfl rfl rfl) ?_
  conv => whnf
  refine br.h2 h ?_ ?_ ?_
  · rfl
  · clear h; intro hb h; conv => whnf
    all_goals (cases h)
    all_goals exact rfl
  clear h; intro hb h; conv => whnf
  obtain ⟨a4, hy, h2⟩ := obind.elim h; clear h; have h := h2; clear h2
  refine sumK.introF [] (sumRun_of (aqs := []) ra_nil (r49_eq hy) rfl rfl rfl rfl) ?_
  conv => whnf
  all_goals (cases h)
  all_goals exact rfl
theorem ok14 (law06_awake : Option Bool) (ipsix_Put : ipsix_Head → (List UInt8) → Option ((List UInt8) × Int)) (law06_of : ipsix_Head → Option ipsix_Head) (ipsix_Get : (List UInt8) → Option (ipsix_Head × (List UInt8) × Int)) (law06_back : ipsix_Head → Option ipsix_Head) (hS : SumsOK Try.prog (aget (sums14 law06_awake ipsix_Put law06_of ipsix_Get law06_back))) : SumOK Try.prog 14 (s14 (law06_IpsixBackF law06_awake ipsix_Put law06_of ipsix_Get law06_back)) := by
  refine SumOK.of_leads tab_ok (fun ar r ha hr => ?_) ⟨Try.f14, rfl, by decide, rfl⟩
  simp only [s14] at ha hr
  unfold r14 at hr
  split at hr <;> try (cases hr; done)
  split at hr <;> cases hr
  rename_i x h
  refine ⟨_, rfl, (leads14 law06_awake ipsix_Put law06_of ipsix_Get law06_back hS _ _ _ _ _ x h).mono fun v H t hp => ?_⟩
  cases hp
  exact Res.val rfl trivial
def law06_IpsixBack : ipsix_Head → (List UInt8) → (List UInt8) → (List UInt8) → Int → Option Bool := law06_IpsixBackF law06_awake ipsix_Put law06_of ipsix_Get law06_back
theorem lift14 : SumOK Try.prog 14 (s14 law06_IpsixBack) := ok14 law06_awake ipsix_Put law06_of ipsix_Get law06_back (SumsOK.of_tab ⟨lift49, lift50, lift51, lift53, lift55, trivial⟩)
end Go.Vm.Code

/- IpsixTells and IpsixBack, in plain words. -/
namespace Go.Vm.Code
open Go Go.Vm
theorem awake06 : law06_awake = some true := by decide +kernel
theorem ipsixTells (h : ipsix_Head) (p s : List UInt8) (hs : AddrOK h.Src) (hd : AddrOK h.Dst) : law06_IpsixTells h p s = some true := by
  unfold law06_IpsixTells law06_IpsixTellsF law06_of law06_ofF law06_back law06_backF
  rw [awake06]
  by_cases h1 : (p.length : Int) > 200
  · rw [cond_p h1]; rfl
  rw [cond_n h1]
  by_cases h2 : (s.length : Int) > 200
  · rw [cond_p h2]; rfl
  rw [cond_n h2, Option.bind_some, put6_eq hs hd (by omega), rput6_eq hs hd (by omega), get6_eq (by omega), rget6_eq (by omega)]
  simp only [Option.bind_some, beq_self_eq_true, cond_true, Bool.and_self]

theorem addrG_addrB {a : api_Addr} (h : AddrOK a) (h6 : a.V6 = true) : addrG (addrB a) = a := by
  obtain ⟨v, hi, lo⟩ := a
  simp only [AddrOK] at h h6
  subst h6
  unfold addrG addrB
  have e1 : (be hi.toNat 8 ++ be lo.toNat 8).take 8 = be hi.toNat 8 := by rw [List.take_append_of_le_length (by simp), List.take_of_length_le (by simp)]
  have e2 : (be hi.toNat 8 ++ be lo.toNat 8).drop 8 = be lo.toNat 8 := by rw [List.drop_append_of_le_length (by simp), List.drop_of_length_le (by simp)]; rfl
  rw [e1, e2, val_be_lt (by have := h.1; omega), val_be_lt (by have := h.2; omega), Int.toNat_of_nonneg h.1.1, Int.toNat_of_nonneg h.2.1]
theorem addrB_addrG {s : List UInt8} (h : s.length = 16) : addrB (addrG s) = s := by
  unfold addrB addrG
  simp only [Int.toNat_natCast]
  rw [be_val' (by simp; omega), be_val' (by simp; omega), List.take_append_drop]
theorem addrG_ok {s : List UInt8} (h : s.length = 16) : AddrOK (addrG s) := by
  have h1 := val_lt (s.take 8)
  have h2 := val_lt (s.drop 8)
  rw [show (s.take 8).length = 8 by simp; omega] at h1
  rw [show (s.drop 8).length = 8 by simp; omega] at h2
  unfold AddrOK addrG
  simp only []
  omega
/-- bytes taken apart at six places -/
theorem parts6 {a b c d e f r : List UInt8} (ha : a.length = 4) (hb : b.length = 2) (hc : c.length = 1) (hd : d.length = 1) (he : e.length = 16) (hf : f.length = 16) :
    let s := a ++ b ++ c ++ d ++ e ++ f ++ r
    s.take 4 = a ∧ (s.drop 4).take 2 = b ∧ (s.drop 6).take 1 = c ∧ (s.drop 7).take 1 = d ∧ (s.drop 8).take 16 = e ∧ (s.drop 24).take 16 = f ∧ s.drop 40 = r := by
  have d4 : ∀ x : List UInt8, (a ++ x).drop 4 = x := fun x => by rw [← ha]; exact List.drop_left
  have d2 : ∀ x : List UInt8, (b ++ x).drop 2 = x := fun x => by rw [← hb]; exact List.drop_left
  have dc : ∀ x : List UInt8, (c ++ x).drop 1 = x := fun x => by rw [← hc]; exact List.drop_left
  have dd : ∀ x : List UInt8, (d ++ x).drop 1 = x := fun x => by rw [← hd]; exact List.drop_left
  have de : ∀ x : List UInt8, (e ++ x).drop 16 = x := fun x => by rw [← he]; exact List.drop_left
  have df : ∀ x : List UInt8, (f ++ x).drop 16 = x := fun x => by rw [← hf]; exact List.drop_left
  simp only [List.append_assoc]
  have e6 : (a ++ (b ++ (c ++ (d ++ (e ++ (f ++ r)))))).drop 6 = c ++ (d ++ (e ++ (f ++ r))) := by
    rw [show 6 = 4 + 2 from rfl, ← List.drop_drop, d4, d2]
  have e7 : (a ++ (b ++ (c ++ (d ++ (e ++ (f ++ r)))))).drop 7 = d ++ (e ++ (f ++ r)) := by
    rw [show 7 = 6 + 1 from rfl, ← List.drop_drop, e6, dc]
  have e8 : (a ++ (b ++ (c ++ (d ++ (e ++ (f ++ r)))))).drop 8 = e ++ (f ++ r) := by
    rw [show 8 = 7 + 1 from rfl, ← List.drop_drop, e7, dd]
  have e24 : (a ++ (b ++ (c ++ (d ++ (e ++ (f ++ r)))))).drop 24 = f ++ r := by
    rw [show 24 = 8 + 16 from rfl, ← List.drop_drop, e8, de]
  have e40 : (a ++ (b ++ (c ++ (d ++ (e ++ (f ++ r)))))).drop 40 = r := by
    rw [show 40 = 24 + 16 from rfl, ← List.drop_drop, e24, df]
  refine ⟨by rw [← ha]; exact List.take_left, ?_, ?_, ?_, ?_, ?_, e40⟩
  · rw [d4, ← hb]; exact List.take_left
  · rw [e6, ← hc]; exact List.take_left
  · rw [e7, ← hd]; exact List.take_left
  · rw [e8, ← he]; exact List.take_left
  · rw [e24, ← hf]; exact List.take_left
theorem get6_head {h : ipsix_Head} {n : Nat} {r : List UInt8} (hh : H6 h) (hs : AddrOK h.Src) (hd : AddrOK h.Dst) (hn : n ≤ 65535) : get6 (headB h n ++ r) = if r.length < n then (zero6, [], 2) else (h, r.take n, 0) := by
  obtain ⟨a, b, c, d, e, f⟩ := hh
  have hl := headB_len h n
  obtain ⟨p1, p2, p3, p4, p5, p6, p7⟩ := parts6 (a := be (6 * 2 ^ 28 + h.Class.toNat * 2 ^ 20 + h.Label.toNat) 4) (b := be n 2) (c := be h.Next.toNat 1) (d := be h.Hop.toNat 1) (e := addrB h.Src) (f := addrB h.Dst) (r := r) (by simp) (by simp) (by simp) (by simp) (by simp [addrB]) (by simp [addrB])
  have hv : valL ((headB h n ++ r).take 4) = 6 * 2 ^ 28 + h.Class.toNat * 2 ^ 20 + h.Label.toNat := by
    unfold headB; rw [p1, val_be_lt (by omega)]
  have hw : valL (((headB h n ++ r).drop 4).take 2) = n := by unfold headB; rw [p2, val_be_lt (by omega)]
  unfold get6
  rw [if_neg (by simp; omega), hv, if_neg (by omega), hw]
  have hlen : (headB h n ++ r).length - 40 = r.length := by simp; omega
  rw [hlen]
  by_cases hr : r.length < n
  · rw [if_pos hr, if_pos hr]
  rw [if_neg hr, if_neg hr]
  have e40 : (headB h n ++ r).drop 40 = r := p7
  rw [e40]
  unfold head6
  rw [hv]
  unfold headB
  rw [p3, p4, p5, p6, addrG_addrB hs e, addrG_addrB hd f, val_be_lt (by omega), val_be_lt (by omega)]
  have e1 : (((6 * 2 ^ 28 + h.Class.toNat * 2 ^ 20 + h.Label.toNat) / 2 ^ 20 % 256 : Nat) : Int) = h.Class := by omega
  have e2 : (((6 * 2 ^ 28 + h.Class.toNat * 2 ^ 20 + h.Label.toNat) % 2 ^ 20 : Nat) : Int) = h.Label := by omega
  simp only []
  rw [e1, e2, Int.toNat_of_nonneg c.1, Int.toNat_of_nonneg d.1]
theorem put6_get6 {s : List UInt8} (h0 : (get6 s).2.2 = 0) : (put6 (get6 s).1 (get6 s).2.1).2 = 0 ∧ (put6 (get6 s).1 (get6 s).2.1).1.length ≤ s.length ∧ (put6 (get6 s).1 (get6 s).2.1).1 = s.take (put6 (get6 s).1 (get6 s).2.1).1.length ∧ AddrOK (get6 s).1.Src ∧ AddrOK (get6 s).1.Dst ∧ (get6 s).2.1.length < 2 ^ 60 := by
  unfold get6 at h0 ⊢
  split at h0
  · simp at h0
  rename_i h1
  split at h0
  · simp at h0
  rename_i h2
  split at h0
  · simp at h0
  rename_i h3
  rw [if_neg h1, if_neg h2, if_neg h3]
  simp only []
  have v2 : valL ((s.drop 4).take 2) < 2 ^ 16 := val_take_lt _ (by decide)
  have v1 : valL ((s.drop 6).take 1) < 2 ^ 8 := val_take_lt _ (by decide)
  have v1' : valL ((s.drop 7).take 1) < 2 ^ 8 := val_take_lt _ (by decide)
  generalize hn : valL ((s.drop 4).take 2) = n at *
  have hpl : ((s.drop 40).take n).length = n := by simp; omega
  have hH : H6 (head6 s) := by
    unfold H6 head6
    simp only []
    refine ⟨by omega, by omega, by omega, by omega, rfl, rfl⟩
  have oks : AddrOK (head6 s).Src := addrG_ok (by simp; omega)
  have okd : AddrOK (head6 s).Dst := addrG_ok (by simp; omega)
  have hB : headB (head6 s) n = s.take 40 := by
    unfold headB head6
    simp only [Int.toNat_natCast]
    have em : 6 * 2 ^ 28 + valL (s.take 4) / 2 ^ 20 % 256 * 2 ^ 20 + valL (s.take 4) % 2 ^ 20 = valL (s.take 4) := by omega
    rw [em, be_val' (l := s.take 4) (by simp; omega), ← hn, be_val' (l := (s.drop 4).take 2) (by simp; omega), be_val' (l := (s.drop 6).take 1) (by simp; omega), be_val' (l := (s.drop 7).take 1) (by simp; omega), addrB_addrG (by simp; omega), addrB_addrG (by simp; omega)]
    rw [← List.take_add, ← List.take_add, ← List.take_add, ← List.take_add, ← List.take_add]
  have hput : put6 (head6 s) ((s.drop 40).take n) = (s.take (40 + n), 0) := by
    unfold put6
    rw [if_neg (by simpa using hH), if_neg (by omega), hpl, hB, ← List.take_add]
  rw [hput]
  have hlen : (s.take (40 + n)).length = 40 + n := by simp; omega
  simp only [hlen]
  exact ⟨trivial, by omega, trivial, oks, okd, by omega⟩
theorem ipsixBack (h : ipsix_Head) (p more s : List UInt8) (ar : Int) (hs : AddrOK h.Src) (hd : AddrOK h.Dst) (ha : 0 ≤ ar ∧ ar < 65536) : law06_IpsixBack h p more s ar = some true := by
  unfold law06_IpsixBack law06_IpsixBackF law06_of law06_ofF law06_back law06_backF
  rw [awake06]
  by_cases h1 : (p.length : Int) > 200
  · rw [cond_p h1]; rfl
  rw [cond_n h1]
  by_cases h2 : (more.length : Int) > 200
  · rw [cond_p h2]; rfl
  rw [cond_n h2]
  by_cases h3 : (s.length : Int) > 200
  · rw [cond_p h3]; rfl
  rw [cond_n h3, get6_eq (by omega), Option.bind_some]
  -- the second half, twice
  have half : ∀ K : Bool → Option Bool, K true = some true → ((ipsix_Put h p).bind fun p2 =>
      cond (p2.2 != 0)
        (cond (p2.1 == []) ((some true).bind fun a5 => K a5) (some false))
        (oreq (decide (p2.1.length + more.length < 2 ^ 63)) <|
          (ipsix_Get (p2.1 ++ more)).bind fun xg3 =>
          cond (xg3.2.2 != 0) (some (false))
            ((some xg3.1).bind fun b1 =>
              cond (!((b1.Class == h.Class) && ((b1.Label == h.Label) && ((b1.Next == h.Next) && ((b1.Hop == h.Hop) && ((b1.Src.V6 == h.Src.V6) && ((b1.Src.Hi == h.Src.Hi) && ((b1.Src.Lo == h.Src.Lo) && ((b1.Dst.V6 == h.Dst.V6) && ((b1.Dst.Hi == h.Dst.Hi) && ((b1.Dst.Lo == h.Dst.Lo) && true))))))))))) (some (false))
                (cond (!(xg3.2.1 == p)) (some (false))
                  (cond ((p2.1.length : Int) != (wI .i64 (40 + (p.length : Int)))) (some (false))
                    (oreq (!(decide ((p2.1.length : Int) = 0))) <|
                      oreq (decide ((0 : Int) ≤ ((wI .i64 ar).tmod (p2.1.length : Int)) ∧ ((wI .i64 ar).tmod (p2.1.length : Int)) ≤ (p2.1.length : Int))) <|
                      (ipsix_Get (p2.1.take ((wI .i64 ar).tmod (p2.1.length : Int)).toNat)).bind fun xg4 =>
                      cond (xg4.2.2 == 2) ((some true).bind fun a6 => K a6) (some (false)))))))) = some true := by
    intro K hK
    rw [put6_eq hs hd (by omega), Option.bind_some]
    by_cases hh : H6 h
    · have e : put6 h p = (headB h p.length ++ p, 0) := by unfold put6; rw [if_neg (by simpa using hh), if_neg (by omega)]
      rw [e]
      simp only [bne_self_eq_false, cond_false]
      have hl := headB_len h p.length
      have hl2 : (headB h p.length ++ p).length = 40 + p.length := by simp; omega
      rw [oreq_p (by omega), get6_eq (by simp; omega), Option.bind_some, List.append_assoc, get6_head hh hs hd (by omega), if_neg (by simp)]
      simp only [bne_self_eq_false, cond_false, Option.bind_some, beq_self_eq_true, Bool.and_self, Bool.not_true, List.take_left']
      rw [hl2, wI64 (n := 40 + (p.length : Int)) (by omega) (by omega), wI64 (n := ar) (by omega) (by omega)]
      have e2 : (((40 + p.length : Nat) : Int) != 40 + (p.length : Int)) = false := by rw [bne_eq_false_iff_eq]; omega
      rw [e2, cond_false]
      have e3 : (!(decide (((40 + p.length : Nat) : Int) = 0))) = true := by rw [decide_eq_false (by omega)]; rfl
      have hm := Int.emod_nonneg ar (show ((40 + p.length : Nat) : Int) ≠ 0 by omega)
      have hm2 := Int.emod_lt_of_pos ar (show (0 : Int) < ((40 + p.length : Nat) : Int) by omega)
      rw [oreq.mk e3, Int.tmod_eq_emod_of_nonneg ha.1, oreq_p (by omega)]
      obtain ⟨j, hj⟩ := Int.eq_ofNat_of_zero_le hm
      rw [hj] at hm2 ⊢
      rw [Int.toNat_natCast, get6_eq (by simp; omega), Option.bind_some]
      have e4 : (get6 ((headB h p.length ++ p).take j)).2.2 = 2 := by
        by_cases h40 : j < 40
        · unfold get6; rw [if_pos (by simp; omega)]
        · have e5 : (headB h p.length ++ p).take j = headB h p.length ++ p.take (j - 40) := by
            rw [List.take_append, List.take_of_length_le (by omega), hl]
          rw [e5, get6_head hh hs hd (by omega), if_pos (by simp; omega)]
      rw [e4]
      exact hK
    · have e : put6 h p = ([], 1) := by unfold put6; rw [if_pos hh]
      rw [e]
      exact hK
  by_cases h0 : (get6 s).2.2 = 0
  · have eb : ((get6 s).2.2 == 0) = true := by rw [h0]; rfl
    obtain ⟨q1, q2, q3, q4, q5, q6⟩ := put6_get6 h0
    rw [eb, cond_true, put6_eq q4 q5 q6, Option.bind_some, q1]
    simp only [bne_self_eq_false, cond_false]
    rw [cond_n (by omega), oreq_p (by omega), ← q3]
    simp only [beq_self_eq_true, Bool.not_true, cond_false]
    exact half (fun a => some a) rfl
  · have eb : ((get6 s).2.2 == 0) = false := by rw [beq_eq_false_iff_ne]; exact h0
    rw [eb, cond_false]
    exact half (fun a => some a) rfl
end Go.Vm.Code
