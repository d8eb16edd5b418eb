import Derived.Test.YtnjmakblnjibkaaVmLift
import Derived.Test.YtnjmakblnjibkaaCodeA
/- Plain lemmas on the lifted functions' words. -/
namespace Go.Vm
open Go

/-! numbers of the machine -/
theorem wI64 {n : Int} (h1 : -9223372036854775808 ≤ n) (h2 : n < 9223372036854775808) : wI .i64 n = n := by
  show IntKind.wrap .i64 n = n; rw [IntKind.wrap_i64]; omega
theorem wU64 {n : Int} (h1 : 0 ≤ n) (h2 : n < 18446744073709551616) : wI .u64 n = n := by
  show IntKind.wrap .u64 n = n
  simp only [IntKind.wrap, IntKind.bits, IntKind.signed]; simp; omega
theorem wU32 {n : Int} (h1 : 0 ≤ n) (h2 : n < 4294967296) : wI .u32 n = n := by
  show IntKind.wrap .u32 n = n
  simp only [IntKind.wrap, IntKind.bits, IntKind.signed]; simp; omega
theorem wU16 {n : Int} (h1 : 0 ≤ n) (h2 : n < 65536) : wI .u16 n = n := by
  show IntKind.wrap .u16 n = n
  simp only [IntKind.wrap, IntKind.bits, IntKind.signed]; simp; omega
theorem wU8 {n : Int} (h1 : 0 ≤ n) (h2 : n < 256) : wI .u8 n = n := by
  show IntKind.wrap .u8 n = n
  simp only [IntKind.wrap, IntKind.bits, IntKind.signed]; simp; omega
theorem wU64m (n : Int) : wI .u64 n = n % 18446744073709551616 := by
  show IntKind.wrap .u64 n = _
  simp only [IntKind.wrap, IntKind.bits, IntKind.signed]; simp
theorem wU32m (n : Int) : wI .u32 n = n % 4294967296 := by
  show IntKind.wrap .u32 n = _
  simp only [IntKind.wrap, IntKind.bits, IntKind.signed]; simp
theorem wU16m (n : Int) : wI .u16 n = n % 65536 := by
  show IntKind.wrap .u16 n = _
  simp only [IntKind.wrap, IntKind.bits, IntKind.signed]; simp
theorem wU8m (n : Int) : wI .u8 n = n % 256 := by
  show IntKind.wrap .u8 n = _
  simp only [IntKind.wrap, IntKind.bits, IntKind.signed]; simp

theorem bv64 {n : Nat} (h : n < 18446744073709551616) : (BitVec.ofInt 64 (n : Int)).toNat = n := by
  rw [BitVec.toNat_ofInt]; omega
theorem andI64 {a b : Nat} (ha : a < 9223372036854775808) (hb : b < 9223372036854775808) : andI .i64 (a : Int) (b : Int) = ((a &&& b : Nat) : Int) := by
  have h : a &&& b ≤ a := Nat.and_le_left
  show IntKind.wrap .i64 _ = _
  rw [show IntKind.bits .i64 = 64 from rfl, BitVec.toNat_and, bv64 (by omega), bv64 (by omega)]
  exact wI64 (by omega) (by omega)
theorem iorI64 {a b : Nat} (ha : a < 9223372036854775808) (hb : b < 9223372036854775808) : iorI .i64 (a : Int) (b : Int) = ((a ||| b : Nat) : Int) := by
  have h : a ||| b < 2 ^ 63 := Nat.or_lt_two_pow (by omega) (by omega)
  show IntKind.wrap .i64 _ = _
  rw [show IntKind.bits .i64 = 64 from rfl, BitVec.toNat_or, bv64 (by omega), bv64 (by omega)]
  exact wI64 (by omega) (by omega)
theorem andU64 {a b : Nat} (ha : a < 18446744073709551616) (hb : b < 18446744073709551616) : andI .u64 (a : Int) (b : Int) = ((a &&& b : Nat) : Int) := by
  have h : a &&& b ≤ a := Nat.and_le_left
  show IntKind.wrap .u64 _ = _
  rw [show IntKind.bits .u64 = 64 from rfl, BitVec.toNat_and, bv64 (by omega), bv64 (by omega)]
  exact wU64 (by omega) (by omega)
theorem iorU64 {a b : Nat} (ha : a < 18446744073709551616) (hb : b < 18446744073709551616) : iorI .u64 (a : Int) (b : Int) = ((a ||| b : Nat) : Int) := by
  have h : a ||| b < 2 ^ 64 := Nat.or_lt_two_pow (by omega) (by omega)
  show IntKind.wrap .u64 _ = _
  rw [show IntKind.bits .u64 = 64 from rfl, BitVec.toNat_or, bv64 (by omega), bv64 (by omega)]
  exact wU64 (by omega) (by omega)
theorem ixorU64 {a b : Nat} (ha : a < 18446744073709551616) (hb : b < 18446744073709551616) : ixorI .u64 (a : Int) (b : Int) = ((a ^^^ b : Nat) : Int) := by
  have h : a ^^^ b < 2 ^ 64 := Nat.xor_lt_two_pow (by omega) (by omega)
  show IntKind.wrap .u64 _ = _
  rw [show IntKind.bits .u64 = 64 from rfl, BitVec.toNat_xor, bv64 (by omega), bv64 (by omega)]
  exact wU64 (by omega) (by omega)
theorem and_mask (a k : Nat) : a &&& (2 ^ k - 1) = a % 2 ^ k := Nat.and_two_pow_sub_one_eq_mod a k
theorem or_low {a b k : Nat} (hb : b < 2 ^ k) : (a * 2 ^ k) ||| b = a * 2 ^ k + b := by
  rw [Nat.mul_comm]; exact (Nat.two_pow_add_eq_or_of_lt hb a).symm
/-- a number's lowest bits -/
theorem andI64_mask (k : Nat) {a m : Int} (hm : m = 2 ^ k - 1) (hk : k ≤ 62) (h0 : 0 ≤ a) (h1 : a < 9223372036854775808) : andI .i64 a m = a % 2 ^ k := by
  obtain ⟨n, rfl⟩ := Int.eq_ofNat_of_zero_le h0
  have hp : 2 ^ k ≤ 2 ^ 62 := Nat.pow_le_pow_right (by decide) hk
  have hp1 : 1 ≤ 2 ^ k := Nat.one_le_two_pow
  have : m = ((2 ^ k - 1 : Nat) : Int) := by rw [hm]; push_cast [hp1]; rfl
  rw [this, andI64 (by omega) (by omega), and_mask]; push_cast; rfl
theorem andU64_mask (k : Nat) {a m : Int} (hm : m = 2 ^ k - 1) (hk : k ≤ 64) (h0 : 0 ≤ a) (h1 : a < 18446744073709551616) : andI .u64 a m = a % 2 ^ k := by
  obtain ⟨n, rfl⟩ := Int.eq_ofNat_of_zero_le h0
  have hp : 2 ^ k ≤ 2 ^ 64 := Nat.pow_le_pow_right (by decide) hk
  have hp1 : 1 ≤ 2 ^ k := Nat.one_le_two_pow
  have : m = ((2 ^ k - 1 : Nat) : Int) := by rw [hm]; push_cast [hp1]; rfl
  rw [this, andU64 (by omega) (by omega), and_mask]; push_cast; rfl
/-- two numbers whose bits lie apart -/
theorem iorI64_low (k : Nat) {a b : Int} (h0 : 0 ≤ a) (h1 : a * 2 ^ k < 9223372036854775808) (hb0 : 0 ≤ b) (hb : b < 2 ^ k) (hb1 : b < 9223372036854775808) : iorI .i64 (a * 2 ^ k) b = a * 2 ^ k + b := by
  obtain ⟨n, rfl⟩ := Int.eq_ofNat_of_zero_le h0
  obtain ⟨m, rfl⟩ := Int.eq_ofNat_of_zero_le hb0
  have e : ((n : Int) * 2 ^ k) = ((n * 2 ^ k : Nat) : Int) := by push_cast; rfl
  rw [e] at h1 ⊢
  rw [iorI64 (by omega) (by omega), or_low (by exact_mod_cast hb)]; push_cast; rfl
theorem iorU64_low (k : Nat) {a b : Int} (h0 : 0 ≤ a) (h1 : a * 2 ^ k < 18446744073709551616) (hb0 : 0 ≤ b) (hb : b < 2 ^ k) (hb1 : b < 18446744073709551616) : iorI .u64 (a * 2 ^ k) b = a * 2 ^ k + b := by
  obtain ⟨n, rfl⟩ := Int.eq_ofNat_of_zero_le h0
  obtain ⟨m, rfl⟩ := Int.eq_ofNat_of_zero_le hb0
  have e : ((n : Int) * 2 ^ k) = ((n * 2 ^ k : Nat) : Int) := by push_cast; rfl
  rw [e] at h1 ⊢
  rw [iorU64 (by omega) (by omega), or_low (by exact_mod_cast hb)]; push_cast; rfl
theorem fdivP (a : Int) (k : Nat) : a.fdiv (2 ^ k) = a / 2 ^ k := Int.fdiv_eq_ediv_of_nonneg a (Int.le_of_lt (Int.pow_pos (by decide)))

/-! steps -/
theorem oreq_p {α : Type} {p : Prop} [Decidable p] {x : Option α} (h : p) : oreq (decide p) x = x := oreq.mk (decide_eq_true h)
theorem cond_p {α : Type} {p : Prop} [Decidable p] {x y : α} (h : p) : cond (decide p) x y = x := by rw [decide_eq_true h, cond_true]
theorem cond_n {α : Type} {p : Prop} [Decidable p] {x y : α} (h : ¬ p) : cond (decide p) x y = y := by rw [decide_eq_false h, cond_false]
theorem cond_dec {α : Type} {p : Prop} [Decidable p] {x y : α} : cond (decide p) x y = if p then x else y := by
  by_cases h : p <;> simp [h]

/-! loops -/
theorem iter_eq {σ ρ : Type} {step : σ → Option (Sum σ ρ)} (F : σ → ρ) (P : σ → Prop) (μ : σ → Nat)
    (h : ∀ s, P s → step s = some (.inr (F s)) ∨ ∃ s', step s = some (.inl s') ∧ P s' ∧ μ s' < μ s ∧ F s' = F s) : ∀ n s, P s → μ s < n → iter step n s = some (F s)
  | 0, s, hp, hn => by omega
  | n + 1, s, hp, hn => by
    rw [iter]
    rcases h s hp with e | ⟨s', e, hp', hm, hf⟩
    · rw [e]
    · rw [e]; exact hf ▸ iter_eq F P μ h n s' hp' (by omega)
theorem FUEL_eq : FUEL = 18446744073709551616 := rfl
end Go.Vm

/- Numbers as bytes, the highest one first: plain Lean, no program. -/
namespace Go.Vm
open Go

/-- the lowest bytes of a number, the highest one first -/
def be (n : Nat) : Nat → List UInt8
  | 0 => []
  | r + 1 => UInt8.ofNat (n / 256 ^ r) :: be n r
/-- the number of bytes -/
def valL (l : List UInt8) : Nat := l.foldl (fun n b => n * 256 + b.toNat) 0

@[simp] theorem be_len (n : Nat) : ∀ k, (be n k).length = k
  | 0 => rfl
  | k + 1 => by simp [be, be_len n k]
theorem be_snoc (n : Nat) : ∀ k, be n (k + 1) = be (n / 256) k ++ [UInt8.ofNat n]
  | 0 => by simp [be]
  | k + 1 => by
    rw [be, be_snoc n k, be, Nat.div_div_eq_div_mul, Nat.pow_succ, Nat.mul_comm 256]; rfl
theorem be_mod (n : Nat) : ∀ k, be (n % 256 ^ k) k = be n k
  | 0 => rfl
  | k + 1 => by
    rw [be_snoc, be_snoc, Nat.pow_succ, Nat.mul_comm, Nat.mod_mul_right_div_self, be_mod (n / 256) k]
    congr 2
    apply UInt8.toNat_inj.1
    simp only [UInt8.toNat_ofNat']
    rw [Nat.mod_mul_right_mod]
theorem val_foldl (l : List UInt8) : ∀ n : Nat, l.foldl (fun n b => n * 256 + b.toNat) n = n * 256 ^ l.length + valL l := by
  induction l with
  | nil => intro n; simp [valL]
  | cons b l ih =>
    intro n
    rw [valL, List.foldl_cons, ih, List.foldl_cons, ih, List.length_cons, Nat.pow_succ]
    rw [Nat.zero_mul, Nat.zero_add, Nat.add_mul, Nat.mul_assoc, Nat.mul_comm (256 ^ _) 256, Nat.add_assoc]
@[simp] theorem val_nil : valL [] = 0 := rfl
theorem val_cons (b : UInt8) (l : List UInt8) : valL (b :: l) = b.toNat * 256 ^ l.length + valL l := by
  rw [valL, List.foldl_cons, val_foldl]; simp
theorem val_append (l m : List UInt8) : valL (l ++ m) = valL l * 256 ^ m.length + valL m := by
  rw [valL, List.foldl_append, val_foldl]; rfl
theorem val_snoc (l : List UInt8) (b : UInt8) : valL (l ++ [b]) = valL l * 256 + b.toNat := by
  rw [val_append]; simp [val_cons]
theorem val_lt : ∀ l : List UInt8, valL l < 256 ^ l.length
  | [] => by simp
  | b :: l => by
    have h := val_lt l
    have hb := b.toNat_lt
    rw [val_cons, List.length_cons, Nat.pow_succ]
    have : b.toNat * 256 ^ l.length + 256 ^ l.length ≤ 256 * 256 ^ l.length := by
      rw [← Nat.succ_mul]; exact Nat.mul_le_mul_right _ (by omega)
    rw [Nat.mul_comm (256 ^ l.length)]; omega
theorem val_be (n : Nat) : ∀ k, valL (be n k) = n % 256 ^ k
  | 0 => by simp [be, Nat.mod_one]
  | k + 1 => by
    have e : n % 256 ^ (k + 1) = n % 256 + 256 * (n / 256 % 256 ^ k) := by rw [Nat.pow_succ', Nat.mod_mul]
    rw [be_snoc, val_snoc, val_be (n / 256) k, UInt8.toNat_ofNat', e]
    generalize n / 256 % 256 ^ k = x
    omega
theorem val_be_lt {n k : Nat} (h : n < 256 ^ k) : valL (be n k) = n := by rw [val_be, Nat.mod_eq_of_lt h]
theorem be_val : ∀ l : List UInt8, be (valL l) l.length = l
  | [] => rfl
  | b :: l => by
    have h := val_lt l
    rw [List.length_cons, be]
    have e1 : valL (b :: l) / 256 ^ l.length = b.toNat := by
      rw [val_cons, Nat.mul_comm, Nat.mul_add_div (Nat.pow_pos (by decide)), Nat.div_eq_of_lt h, Nat.add_zero]
    have e2 : be (valL (b :: l)) l.length = be (valL l) l.length := by
      rw [← be_mod (valL (b :: l)), val_cons, Nat.mul_add_mod', be_mod]
    rw [e1, e2, be_val l]
    simp
theorem be_inj {n m k : Nat} (hn : n < 256 ^ k) (hm : m < 256 ^ k) (h : be n k = be m k) : n = m := by
  rw [← val_be_lt hn, ← val_be_lt hm, h]
theorem be_val' {l : List UInt8} {k : Nat} (h : l.length = k) : be (valL l) k = l := by subst h; exact be_val l
theorem be_of {l : List UInt8} {n k : Nat} (h : l.length = k) (hv : valL l = n) : be n k = l := by subst hv; exact be_val' h
theorem val_take_lt {l : List UInt8} {k : Nat} (n : Nat) (h : 256 ^ k ≤ n) : valL (l.take k) < n := by
  have h1 := val_lt (l.take k)
  have h2 : (l.take k).length ≤ k := List.length_take_le _ _
  exact Nat.lt_of_lt_of_le h1 (Nat.le_trans (Nat.pow_le_pow_right (by decide) h2) h)
theorem be_split (n : Nat) (j : Nat) : ∀ k, be n (j + k) = be (n / 256 ^ k) j ++ be n k
  | 0 => by simp [be]
  | k + 1 => by
    rw [show j + (k + 1) = (j + k) + 1 from rfl, be_snoc, be_split (n / 256) j k, be_snoc n k, Nat.div_div_eq_div_mul, Nat.pow_succ, Nat.mul_comm (256 ^ k), List.append_assoc]
end Go.Vm

namespace Go.Vm.Code
open Go Go.Vm Go.Proofs
set_option maxRecDepth 100000
set_option maxHeartbeats 4000000
set_option linter.unusedVariables false

@[ext] structure quic_Head where
  Long : Bool
  Bits : Int
  Version : Int
  DCID : List UInt8
  SCID : List UInt8
  Rest : List UInt8
  deriving DecidableEq
@[ext] structure octet_Reader where
  s : List UInt8
  made : Bool
  bad : Bool
  deriving DecidableEq
@[ext] structure api_Cover where
  V6 : Bool
  Backend : Int
  Cookie : Int
  First : Bool
  Instance : Int
  deriving DecidableEq
@[ext] structure api_Layout where
  Wide : Bool
  Slot : Int
  Gen : Int
  deriving DecidableEq
@[ext] structure api_Key where
  A : Int
  B : Int
  deriving DecidableEq
@[ext] structure api_Addr where
  V6 : Bool
  Hi : Int
  Lo : Int
  deriving DecidableEq
@[ext] structure api_Tuple where
  Proto : Int
  Src : api_Addr
  Dst : api_Addr
  SPort : Int
  DPort : Int
  deriving DecidableEq
@[ext] structure cookie_layout where
  Layout : api_Layout
  deriving DecidableEq
@[ext] structure Arr4_Int where
  e0 : Int
  e1 : Int
  e2 : Int
  e3 : Int
  deriving DecidableEq
@[ext] structure sip_Hasher where
  made : Bool
  s : Arr4_Int
  last : Int
  count : Int
  deriving DecidableEq
end Go.Vm.Code

namespace Go.Vm.Code
open Go Go.Vm Go.Proofs
set_option maxRecDepth 100000
set_option maxHeartbeats 4000000
set_option linter.unusedVariables false

/-! cloakroom/octet.Put -/
def octet_Put_s1 (n : Int) (k : Int) (t17 : Int) (b : List Int) : Option (Sum (Int × (List Int)) (List UInt8)) :=
  cond (decide (t17 < (k.toNat : Int)))
    (
    let t := wI .i64 (8 * (wI .i64 ((wI .i64 (k - 1)) - t17)))
    oreq (decide (0 ≤ t)) <|
    oreq (decide ((0 : Int) ≤ t17 ∧ t17 < (k.toNat : Int))) <|
    oreq (decide (t17.toNat < b.length)) <|
    let row := b.set t17.toNat (wI .u8 (n.fdiv (2 ^ (min t.toNat 64))))
    some (.inl (wI .i64 (t17 + 1), row)))
    (
    oreq (decide (k.toNat ≤ b.length)) <|
    some (.inr (iB (b.take k.toNat))))
def octet_PutF (n : Int) (k : Int) : Option (List UInt8) :=
  cond (decide (k < 1))
    (
    some ([]))
    (
    cond (decide (k > 8))
      (
      some ([]))
      (
      oreq (decide (0 ≤ k ∧ k ≤ k ∧ k < 2 ^ 63 ∧ (1 : Int) * k ≤ 2 ^ 48)) <|
      iter (fun st => octet_Put_s1 n k st.1 st.2) FUEL (0, List.replicate k.toNat 0)))
def post63 (x : List UInt8) (v : Value) (H : Hp) : Prop := v = .string ⟨⟨x⟩⟩
def r63 (g : Int → Int → Option (List UInt8)) : List SArg → Option SRes
  | [.v (.int .u64 a0_1), .v (.int .i64 a1_1)] => match g a0_1 a1_1 with | some x => some ⟨.string ⟨⟨x⟩⟩, [], []⟩ | none => none
  | _ => none
def s63 (g : Int → Int → Option (List UInt8)) : Summ := ⟨[.v, .v], r63 g⟩
theorem r63_eq {g : Int → Int → Option (List UInt8)} {a0_1 : Int} {a1_1 : Int} {x : List UInt8} (hx : g a0_1 a1_1 = some x) : (s63 g).run [.v (.int .u64 a0_1), .v (.int .i64 a1_1)] = some ⟨.string ⟨⟨x⟩⟩, [], []⟩ := by
  show r63 g [.v (.int .u64 a0_1), .v (.int .i64 a1_1)] = _
  simp only [r63, hx]
abbrev sums63 : List (Nat × Summ) := []
def head63_1 (n : Int) (k : Int) (t17 : Int) (b : List Int) : VM :=
  ⟨⟨63, 34, [(0, .int .u64 n), (1, .int .i64 k), (5, .slice (some ⟨0, 0, none⟩) k.toNat 1), (16, .int .i64 (k.toNat : Int)), (17, .int .i64 t17)], [.code k63_17, .inLoop k63_17, .inBlock 0, .code k63_22], [], false, none⟩, [], [(0, .row true (vI .u8 b))], 1⟩
theorem loop63_1 (hS : SumsOK Try.prog (aget (sums63))) (n : Int) (k : Int) (res : List UInt8) : ∀ fuel (st : Int × (List Int)) (o : List UInt8), iter (fun st => octet_Put_s1 n k st.1 st.2) fuel st = some o → (o = res) →
    Leads Try.prog 63 0 (head63_1 n k st.1 st.2) (fun v H _ => post63 res v H) := by
  intro fuel st o h hc
  refine iter_leads (head := fun st => head63_1 n k st.1 st.2) (C := fun o => (o = res)) ?_ fuel st o h hc
  clear h hc o st fuel
  intro st o h hc
  obtain ⟨t17, b⟩ := st
  replace h : octet_Put_s1 n k t17 b = some o := h
  show Leads Try.prog 63 0 (head63_1 n k t17 b) (fun v H _ => post63 res v H)
  unfold octet_Put_s1 at h
  refine ev_ok tab_ok hS true 3000 ?_
  conv => whnf
  refine br.h2 h ?_ ?_ ?_
  · rfl
  · clear h; intro hb h; conv => whnf
    replace h := oreq.elim h; have hb := h.1; replace h := h.2
    refine req.intro (by (first | rfl | (simp [vI, vB, vS, bI, oneC, addrBlk, cellsL, Value.cells] at *; omega) | (simp [vI, vB, vS, bI, oneC, addrBlk, cellsL, Value.cells] at *; done))) ?_
    conv => whnf
    refine pk_b2s ?_
    conv => whnf
    all_goals (cases h; cases hc)
    all_goals exact rfl
  clear h; intro hb h; conv => whnf
  let t : Int := wI .i64 (8 * (wI .i64 ((wI .i64 (k - 1)) - t17)))
  replace h := oreq.elim h; have hb := h.1; replace h := h.2
  first | (refine req.intro hb ?_; conv => whnf) | skip
  replace h := oreq.elim h; have hb := h.1; replace h := h.2
  first | (refine req.intro hb ?_; conv => whnf) | skip
  replace h := oreq.elim h; have hb := h.1; replace h := h.2
  refine st_I hb (by first | rfl | (rw [Nat.zero_add, Nat.mul_one]; done) | omega) ?_
  conv => whnf
  let row : List Int := b.set t17.toNat (wI .u8 (n.fdiv (2 ^ (min t.toNat 64))))
  cases h; simp only [Sum.elim_inl, Sum.elim_inr, head63_1] at hc
  refine Leads.re hc [(0, 0)] rfl ?_ ?_ <;> (repeat' first | exact trivial | refine ⟨⟨_, rfl, rfl⟩, ?_⟩ | refine ⟨⟨_, _, rfl, rfl, .rowF (vI_flat _ _) id⟩, ?_⟩ | refine ⟨⟨_, _, rfl, rfl, .rowF (vS_flat _) id⟩, ?_⟩ | refine ⟨⟨_, _, rfl, rfl, .rowF (vB_flat _) id⟩, ?_⟩ | refine ⟨⟨_, _, rfl, rfl, .cells rfl⟩, ?_⟩ | refine ⟨⟨_, _, rfl, rfl, .row rfl id⟩, ?_⟩ | refine ⟨⟨_, _, rfl, rfl, .cr rfl⟩, ?_⟩ | refine ⟨⟨_, _, rfl, rfl, .rc rfl⟩, ?_⟩ | refine ⟨⟨_, _, rfl, rfl, .marks⟩, ?_⟩ | refine ⟨⟨_, _, rfl, rfl, .siter _ _⟩, ?_⟩ | refine ⟨⟨_, _, rfl, rfl, .loop rfl rfl rfl rfl (by repeat' first | exact trivial | refine ⟨rfl, ?_⟩) rfl rfl rfl rfl⟩, ?_⟩)
theorem leads63 (hS : SumsOK Try.prog (aget (sums63))) (n : Int) (k : Int) (res : List UInt8) (h : octet_PutF n k = some res) :
    Leads Try.prog 63 0 ⟨⟨63, 34, [(0, .int .u64 n), (1, .int .i64 k)], [.code k63_26], [], false, none⟩, [], [], 0⟩ (fun v H _ => post63 res v H) := by
  unfold octet_PutF at h
  refine ev_ok tab_ok hS true 3000 ?_
  conv => whnf
  refine br.h h ?_ ?_ ?_
  · rfl
  · clear h; intro hb h; conv => whnf
    all_goals (cases h)
    all_goals exact rfl
  clear h; intro hb h; conv => whnf
  refine br.h h ?_ ?_ ?_
  · rfl
  · clear h; intro hb h; conv => whnf
    all_goals (cases h)
    all_goals exact rfl
  clear h; intro hb h; conv => whnf
  replace h := oreq.elim h; have hb := h.1; replace h := h.2
  first | (refine req.intro hb ?_; conv => whnf) | skip
  refine pk_mkI ?_
  conv => whnf
  have hl := loop63_1 hS _ _ res _ _ _ h rfl; simp only [head63_1] at hl
  refine Leads.re hl [(0, 0)] rfl ?_ ?_ <;> (repeat' first | exact trivial | refine ⟨⟨_, rfl, rfl⟩, ?_⟩ | refine ⟨⟨_, _, rfl, rfl, .rowF (vI_flat _ _) id⟩, ?_⟩ | refine ⟨⟨_, _, rfl, rfl, .rowF (vS_flat _) id⟩, ?_⟩ | refine ⟨⟨_, _, rfl, rfl, .rowF (vB_flat _) id⟩, ?_⟩ | refine ⟨⟨_, _, rfl, rfl, .cells rfl⟩, ?_⟩ | refine ⟨⟨_, _, rfl, rfl, .row rfl id⟩, ?_⟩ | refine ⟨⟨_, _, rfl, rfl, .cr rfl⟩, ?_⟩ | refine ⟨⟨_, _, rfl, rfl, .rc rfl⟩, ?_⟩ | refine ⟨⟨_, _, rfl, rfl, .marks⟩, ?_⟩ | refine ⟨⟨_, _, rfl, rfl, .siter _ _⟩, ?_⟩ | refine ⟨⟨_, _, rfl, rfl, .loop rfl rfl rfl rfl (by repeat' first | exact trivial | refine ⟨rfl, ?_⟩) rfl rfl rfl rfl⟩, ?_⟩)
theorem ok63 (hS : SumsOK Try.prog (aget (sums63))) : SumOK Try.prog 63 (s63 (octet_PutF)) := by
  refine SumOK.of_leads tab_ok (fun ar r ha hr => ?_) ⟨Try.f63, rfl, by decide, rfl⟩
  simp only [s63] at ha hr
  unfold r63 at hr
  split at hr <;> try (cases hr; done)
  split at hr <;> cases hr
  rename_i x h
  refine ⟨_, rfl, (leads63 hS _ _ x h).mono fun v H t hp => ?_⟩
  cases hp
  exact Res.val rfl trivial
def octet_Put : Int → Int → Option (List UInt8) := octet_PutF
theorem lift63 : SumOK Try.prog 63 (s63 octet_Put) := ok63 (SumsOK.of_tab trivial)
end Go.Vm.Code

namespace Go.Vm.Code
open Go Go.Vm Go.Proofs
set_option maxRecDepth 100000
set_option maxHeartbeats 4000000
set_option linter.unusedVariables false

/-! cloakroom/octet.Get -/
def octet_Get_s1 (t1 : List UInt8) (n : Int) (t37 : Int) : Option (Sum (Int × Int) (Int × Bool)) :=
  cond (decide (t37 < (t1.length : Int)))
    (
    oreq (decide ((0 : Int) ≤ t37 ∧ t37 < (t1.length : Int))) <|
    ((bI t1)[t37.toNat]?).bind fun (e : Int) =>
    let t2 := iorI .u64 (wI .u64 (n * 2 ^ 8)) (wI .u64 e)
    some (.inl (t2, wI .i64 (t37 + 1))))
    (
    some (.inr ((n, true))))
def octet_GetF (s : List UInt8) (ata1 : Int) (k : Int) : Option (Int × Bool) :=
  cond (decide (k < 1))
    (
    some ((0, false)))
    (
    cond (decide (k > 8))
      (
      some ((0, false)))
      (
      cond (decide (ata1 < 0))
        (
        some ((0, false)))
        (
        let t := decide ((wI .i64 ((s.length : Int) - k)) < ata1)
        cond (t)
          (
          some ((0, false)))
          (
          oreq (decide ((0 : Int) ≤ (wI .i64 (ata1 + k)) ∧ (wI .i64 (ata1 + k)) ≤ (s.length : Int) ∧ (0 : Int) ≤ ata1 ∧ ata1 ≤ ((wI .i64 (ata1 + k)).toNat : Int))) <|
          let t1 := (s.drop ata1.toNat).take ((wI .i64 (ata1 + k)).toNat - ata1.toNat)
          iter (fun st => octet_Get_s1 t1 st.1 st.2) FUEL (0, 0)))))
def post59 (x : Int × Bool) (v : Value) (H : Hp) : Prop := v = .tuple ⟨[.int .u64 x.1, .bool x.2]⟩
def r59 (g : (List UInt8) → Int → Int → Option (Int × Bool)) : List SArg → Option SRes
  | [.v (.string ⟨⟨a0_1⟩⟩), .v (.int .i64 a1_1), .v (.int .i64 a2_1)] => match g a0_1 a1_1 a2_1 with | some x => some ⟨.tuple ⟨[.int .u64 x.1, .bool x.2]⟩, [], []⟩ | none => none
  | _ => none
def s59 (g : (List UInt8) → Int → Int → Option (Int × Bool)) : Summ := ⟨[.v, .v, .v], r59 g⟩
theorem r59_eq {g : (List UInt8) → Int → Int → Option (Int × Bool)} {a0_1 : List UInt8} {a1_1 : Int} {a2_1 : Int} {x : Int × Bool} (hx : g a0_1 a1_1 a2_1 = some x) : (s59 g).run [.v (.string ⟨⟨a0_1⟩⟩), .v (.int .i64 a1_1), .v (.int .i64 a2_1)] = some ⟨.tuple ⟨[.int .u64 x.1, .bool x.2]⟩, [], []⟩ := by
  show r59 g [.v (.string ⟨⟨a0_1⟩⟩), .v (.int .i64 a1_1), .v (.int .i64 a2_1)] = _
  simp only [r59, hx]
abbrev sums59 : List (Nat × Summ) := []
def head59_1 (t1 : List UInt8) (n : Int) (t37 : Int) : VM :=
  ⟨⟨59, 48, [(8, .int .u64 n), (35, .slice (some ⟨0, 0, none⟩) t1.length 1), (36, .int .i64 (t1.length : Int)), (37, .int .i64 t37)], [.code k59_17, .inLoop k59_17, .inBlock 0, .code k59_22], [], false, none⟩, [], [(0, .row true (vI .u8 (bI t1)))], 1⟩
theorem loop59_1 (hS : SumsOK Try.prog (aget (sums59))) (t1 : List UInt8) (res : Int × Bool) : ∀ fuel (st : Int × Int) (o : Int × Bool), iter (fun st => octet_Get_s1 t1 st.1 st.2) fuel st = some o → (o = res) →
    Leads Try.prog 59 0 (head59_1 t1 st.1 st.2) (fun v H _ => post59 res v H) := by
  intro fuel st o h hc
  refine iter_leads (head := fun st => head59_1 t1 st.1 st.2) (C := fun o => (o = res)) ?_ fuel st o h hc
  clear h hc o st fuel
  intro st o h hc
  obtain ⟨n, t37⟩ := st
  replace h : octet_Get_s1 t1 n t37 = some o := h
  show Leads Try.prog 59 0 (head59_1 t1 n t37) (fun v H _ => post59 res v H)
  unfold octet_Get_s1 at h
  refine ev_ok tab_ok hS true 3000 ?_
  conv => whnf
  refine br.h2 h ?_ ?_ ?_
  · rfl
  · clear h; intro hb h; conv => whnf
    all_goals (cases h; cases hc)
    all_goals exact rfl
  clear h; intro hb h; conv => whnf
  replace h := oreq.elim h; have hb := h.1; replace h := h.2
  first | (refine req.intro hb ?_; conv => whnf) | skip
  obtain ⟨e, hy, h2⟩ := obind.elim h; clear h; have h := h2; clear h2
  refine rd.I hy (by first | rfl | (rw [Nat.zero_add, Nat.mul_one]; done) | omega) ?_
  conv => whnf
  let t2 : Int := iorI .u64 (wI .u64 (n * 2 ^ 8)) (wI .u64 e)
  cases h; simp only [Sum.elim_inl, Sum.elim_inr, head59_1] at hc
  refine Leads.re hc [(0, 0)] rfl ?_ ?_ <;> (repeat' first | exact trivial | refine ⟨⟨_, rfl, rfl⟩, ?_⟩ | refine ⟨⟨_, _, rfl, rfl, .rowF (vI_flat _ _) id⟩, ?_⟩ | refine ⟨⟨_, _, rfl, rfl, .rowF (vS_flat _) id⟩, ?_⟩ | refine ⟨⟨_, _, rfl, rfl, .rowF (vB_flat _) id⟩, ?_⟩ | refine ⟨⟨_, _, rfl, rfl, .cells rfl⟩, ?_⟩ | refine ⟨⟨_, _, rfl, rfl, .row rfl id⟩, ?_⟩ | refine ⟨⟨_, _, rfl, rfl, .cr rfl⟩, ?_⟩ | refine ⟨⟨_, _, rfl, rfl, .rc rfl⟩, ?_⟩ | refine ⟨⟨_, _, rfl, rfl, .marks⟩, ?_⟩ | refine ⟨⟨_, _, rfl, rfl, .siter _ _⟩, ?_⟩ | refine ⟨⟨_, _, rfl, rfl, .loop rfl rfl rfl rfl (by repeat' first | exact trivial | refine ⟨rfl, ?_⟩) rfl rfl rfl rfl⟩, ?_⟩)
theorem leads59 (hS : SumsOK Try.prog (aget (sums59))) (s : List UInt8) (ata1 : Int) (k : Int) (res : Int × Bool) (h : octet_GetF s ata1 k = some res) :
    Leads Try.prog 59 0 ⟨⟨59, 48, [(0, .string ⟨⟨s⟩⟩), (1, .int .i64 ata1), (2, .int .i64 k)], [.code k59_26], [], false, none⟩, [], [], 0⟩ (fun v H _ => post59 res v H) := by
  unfold octet_GetF at h
  refine ev_ok tab_ok hS true 3000 ?_
  conv => whnf
  refine br.h h ?_ ?_ ?_
  · rfl
  · clear h; intro hb h; conv => whnf
    all_goals (cases h)
    all_goals exact rfl
  clear h; intro hb h; conv => whnf
  refine br.h h ?_ ?_ ?_
  · rfl
  · clear h; intro hb h; conv => whnf
    all_goals (cases h)
    all_goals exact rfl
  clear h; intro hb h; conv => whnf
  refine br.h h ?_ ?_ ?_
  · rfl
  · clear h; intro hb h; conv => whnf
    all_goals (cases h)
    all_goals exact rfl
  clear h; intro hb h; conv => whnf
  let t : Bool := decide ((wI .i64 ((s.length : Int) - k)) < ata1)
  refine br.h h ?_ ?_ ?_
  · rfl
  · clear h; intro hb h; conv => whnf
    all_goals (cases h)
    all_goals exact rfl
  clear h; intro hb h; conv => whnf
  replace h := oreq.elim h; have hb := h.1; replace h := h.2
  first | (refine req.intro hb ?_; conv => whnf) | skip
  let t1 : List UInt8 := (s.drop ata1.toNat).take ((wI .i64 (ata1 + k)).toNat - ata1.toNat)
  refine pk_s2b ?_
  conv => whnf
  have hl := loop59_1 hS _ res _ _ _ h rfl; simp only [head59_1] at hl
  refine Leads.re hl [(0, 0)] rfl ?_ ?_ <;> (repeat' first | exact trivial | refine ⟨⟨_, rfl, rfl⟩, ?_⟩ | refine ⟨⟨_, _, rfl, rfl, .rowF (vI_flat _ _) id⟩, ?_⟩ | refine ⟨⟨_, _, rfl, rfl, .rowF (vS_flat _) id⟩, ?_⟩ | refine ⟨⟨_, _, rfl, rfl, .rowF (vB_flat _) id⟩, ?_⟩ | refine ⟨⟨_, _, rfl, rfl, .cells rfl⟩, ?_⟩ | refine ⟨⟨_, _, rfl, rfl, .row rfl id⟩, ?_⟩ | refine ⟨⟨_, _, rfl, rfl, .cr rfl⟩, ?_⟩ | refine ⟨⟨_, _, rfl, rfl, .rc rfl⟩, ?_⟩ | refine ⟨⟨_, _, rfl, rfl, .marks⟩, ?_⟩ | refine ⟨⟨_, _, rfl, rfl, .siter _ _⟩, ?_⟩ | refine ⟨⟨_, _, rfl, rfl, .loop rfl rfl rfl rfl (by repeat' first | exact trivial | refine ⟨rfl, ?_⟩) rfl rfl rfl rfl⟩, ?_⟩)
theorem ok59 (hS : SumsOK Try.prog (aget (sums59))) : SumOK Try.prog 59 (s59 (octet_GetF)) := by
  refine SumOK.of_leads tab_ok (fun ar r ha hr => ?_) ⟨Try.f59, rfl, by decide, rfl⟩
  simp only [s59] at ha hr
  unfold r59 at hr
  split at hr <;> try (cases hr; done)
  split at hr <;> cases hr
  rename_i x h
  refine ⟨_, rfl, (leads59 hS _ _ _ x h).mono fun v H t hp => ?_⟩
  cases hp
  exact Res.val rfl trivial
def octet_Get : (List UInt8) → Int → Int → Option (Int × Bool) := octet_GetF
theorem lift59 : SumOK Try.prog 59 (s59 octet_Get) := ok59 (SumsOK.of_tab trivial)
end Go.Vm.Code

namespace Go.Vm.Code
open Go Go.Vm Go.Proofs
set_option maxRecDepth 100000
set_option maxHeartbeats 4000000
set_option linter.unusedVariables false

/-! cloakroom/cloakroomref02.Put -/
def R02_Put_s1 (k : Int) (n1 : Int) (s : List UInt8) (i : Int) : Option (Sum (Int × (List UInt8) × Int) (List UInt8)) :=
  cond (decide (i < k))
    (
    cond (decide (k ≤ 8))
      (
      let t := [UInt8.ofNat (wI .u8 (n1.tmod 256)).toNat]
      oreq (decide (t.length + s.length < 2 ^ 63)) <|
      some (.inl (wI .u64 (n1.tdiv 256), t ++ s, wI .i64 (i + 1))))
      (
      some (.inr (s))))
    (
    some (.inr (s)))
def R02_PutF (n : Int) (k : Int) : Option (List UInt8) :=
  iter (fun st => R02_Put_s1 k st.1 st.2.1 st.2.2) FUEL (n, [], 0)
def post64 (x : List UInt8) (v : Value) (H : Hp) : Prop := v = .string ⟨⟨x⟩⟩
def r64 (g : Int → Int → Option (List UInt8)) : List SArg → Option SRes
  | [.v (.int .u64 a0_1), .v (.int .i64 a1_1)] => match g a0_1 a1_1 with | some x => some ⟨.string ⟨⟨x⟩⟩, [], []⟩ | none => none
  | _ => none
def s64 (g : Int → Int → Option (List UInt8)) : Summ := ⟨[.v, .v], r64 g⟩
theorem r64_eq {g : Int → Int → Option (List UInt8)} {a0_1 : Int} {a1_1 : Int} {x : List UInt8} (hx : g a0_1 a1_1 = some x) : (s64 g).run [.v (.int .u64 a0_1), .v (.int .i64 a1_1)] = some ⟨.string ⟨⟨x⟩⟩, [], []⟩ := by
  show r64 g [.v (.int .u64 a0_1), .v (.int .i64 a1_1)] = _
  simp only [r64, hx]
abbrev sums64 : List (Nat × Summ) := []
def head64_1 (k : Int) (n1 : Int) (s : List UInt8) (i : Int) : VM :=
  ⟨⟨64, 26, [(0, .int .u64 n1), (1, .int .i64 k), (5, .string ⟨⟨s⟩⟩), (6, .int .i64 i)], [.code k64_12, .inLoop k64_12, .inBlock 0, .code k64_17], [], false, none⟩, [], [], 0⟩
theorem loop64_1 (hS : SumsOK Try.prog (aget (sums64))) (k : Int) (res : List UInt8) : ∀ fuel (st : Int × (List UInt8) × Int) (o : List UInt8), iter (fun st => R02_Put_s1 k st.1 st.2.1 st.2.2) fuel st = some o → (o = res) →
    Leads Try.prog 64 0 (head64_1 k st.1 st.2.1 st.2.2) (fun v H _ => post64 res v H) := by
  intro fuel st o h hc
  refine iter_leads (head := fun st => head64_1 k st.1 st.2.1 st.2.2) (C := fun o => (o = res)) ?_ fuel st o h hc
  clear h hc o st fuel
  intro st o h hc
  obtain ⟨n1, s, i⟩ := st
  replace h : R02_Put_s1 k n1 s i = some o := h
  show Leads Try.prog 64 0 (head64_1 k n1 s i) (fun v H _ => post64 res v H)
  unfold R02_Put_s1 at h
  refine ev_ok tab_ok hS true 3000 ?_
  conv => whnf
  refine br.h2 h ?_ ?_ ?_
  · rfl
  · clear h; intro hb h; conv => whnf
    all_goals (cases h; cases hc)
    all_goals exact rfl
  clear h; intro hb h; conv => whnf
  refine br.h2 h ?_ ?_ ?_
  · rfl
  · clear h; intro hb h; conv => whnf
    all_goals (cases h; cases hc)
    all_goals exact rfl
  clear h; intro hb h; conv => whnf
  refine pk_b2sL rfl ?_
  conv => whnf
  let t : List UInt8 := [UInt8.ofNat (wI .u8 (n1.tmod 256)).toNat]
  replace h := oreq.elim h; have hb := h.1; replace h := h.2
  first | (refine req.intro hb ?_; conv => whnf) | skip
  cases h; simp only [Sum.elim_inl, Sum.elim_inr, head64_1] at hc
  refine Leads.re hc [] rfl ?_ ?_ <;> (repeat' first | exact trivial | refine ⟨⟨_, rfl, rfl⟩, ?_⟩ | refine ⟨⟨_, _, rfl, rfl, .rowF (vI_flat _ _) id⟩, ?_⟩ | refine ⟨⟨_, _, rfl, rfl, .rowF (vS_flat _) id⟩, ?_⟩ | refine ⟨⟨_, _, rfl, rfl, .rowF (vB_flat _) id⟩, ?_⟩ | refine ⟨⟨_, _, rfl, rfl, .cells rfl⟩, ?_⟩ | refine ⟨⟨_, _, rfl, rfl, .row rfl id⟩, ?_⟩ | refine ⟨⟨_, _, rfl, rfl, .cr rfl⟩, ?_⟩ | refine ⟨⟨_, _, rfl, rfl, .rc rfl⟩, ?_⟩ | refine ⟨⟨_, _, rfl, rfl, .marks⟩, ?_⟩ | refine ⟨⟨_, _, rfl, rfl, .siter _ _⟩, ?_⟩ | refine ⟨⟨_, _, rfl, rfl, .loop rfl rfl rfl rfl (by repeat' first | exact trivial | refine ⟨rfl, ?_⟩) rfl rfl rfl rfl⟩, ?_⟩)
theorem leads64 (hS : SumsOK Try.prog (aget (sums64))) (n : Int) (k : Int) (res : List UInt8) (h : R02_PutF n k = some res) :
    Leads Try.prog 64 0 ⟨⟨64, 26, [(0, .int .u64 n), (1, .int .i64 k)], [.code k64_20], [], false, none⟩, [], [], 0⟩ (fun v H _ => post64 res v H) := by
  unfold R02_PutF at h
  refine ev_ok tab_ok hS true 3000 ?_
  conv => whnf
  have hl := loop64_1 hS _ res _ _ _ h rfl; simp only [head64_1] at hl
  refine Leads.re hl [] rfl ?_ ?_ <;> (repeat' first | exact trivial | refine ⟨⟨_, rfl, rfl⟩, ?_⟩ | refine ⟨⟨_, _, rfl, rfl, .rowF (vI_flat _ _) id⟩, ?_⟩ | refine ⟨⟨_, _, rfl, rfl, .rowF (vS_flat _) id⟩, ?_⟩ | refine ⟨⟨_, _, rfl, rfl, .rowF (vB_flat _) id⟩, ?_⟩ | refine ⟨⟨_, _, rfl, rfl, .cells rfl⟩, ?_⟩ | refine ⟨⟨_, _, rfl, rfl, .row rfl id⟩, ?_⟩ | refine ⟨⟨_, _, rfl, rfl, .cr rfl⟩, ?_⟩ | refine ⟨⟨_, _, rfl, rfl, .rc rfl⟩, ?_⟩ | refine ⟨⟨_, _, rfl, rfl, .marks⟩, ?_⟩ | refine ⟨⟨_, _, rfl, rfl, .siter _ _⟩, ?_⟩ | refine ⟨⟨_, _, rfl, rfl, .loop rfl rfl rfl rfl (by repeat' first | exact trivial | refine ⟨rfl, ?_⟩) rfl rfl rfl rfl⟩, ?_⟩)
theorem ok64 (hS : SumsOK Try.prog (aget (sums64))) : SumOK Try.prog 64 (s64 (R02_PutF)) := by
  refine SumOK.of_leads tab_ok (fun ar r ha hr => ?_) ⟨Try.f64, rfl, by decide, rfl⟩
  simp only [s64] at ha hr
  unfold r64 at hr
  split at hr <;> try (cases hr; done)
  split at hr <;> cases hr
  rename_i x h
  refine ⟨_, rfl, (leads64 hS _ _ x h).mono fun v H t hp => ?_⟩
  cases hp
  exact Res.val rfl trivial
def R02_Put : Int → Int → Option (List UInt8) := R02_PutF
theorem lift64 : SumOK Try.prog 64 (s64 R02_Put) := ok64 (SumsOK.of_tab trivial)
end Go.Vm.Code

namespace Go.Vm.Code
open Go Go.Vm Go.Proofs
set_option maxRecDepth 100000
set_option maxHeartbeats 4000000
set_option linter.unusedVariables false

/-! cloakroom/cloakroomref02.Get -/
def R02_Get_s1 (s : List UInt8) (ata1 : Int) (k : Int) (n : Int) (i : Int) : Option (Sum (Int × Int) (Int × Bool)) :=
  cond (decide (i < k))
    (
    oreq (decide (0 ≤ (wI .i64 (ata1 + i)))) <|
    (s[(wI .i64 (ata1 + i)).toNat]?).bind fun (b : UInt8) =>
    let t1 := wI .u64 ((wI .u64 (n * 256)) + (wI .u64 (b.toNat : Int)))
    some (.inl (t1, wI .i64 (i + 1))))
    (
    some (.inr ((n, true))))
def R02_GetF (s : List UInt8) (ata1 : Int) (k : Int) : Option (Int × Bool) :=
  cond (decide (k < 1))
    (
    some ((0, false)))
    (
    cond (decide (k > 8))
      (
      some ((0, false)))
      (
      cond (decide (ata1 < 0))
        (
        some ((0, false)))
        (
        cond (decide (ata1 > (s.length : Int)))
          (
          some ((0, false)))
          (
          let t := decide (k > (wI .i64 ((s.length : Int) - ata1)))
          cond (t)
            (
            some ((0, false)))
            (
            iter (fun st => R02_Get_s1 s ata1 k st.1 st.2) FUEL (0, 0))))))
def post60 (x : Int × Bool) (v : Value) (H : Hp) : Prop := v = .tuple ⟨[.int .u64 x.1, .bool x.2]⟩
def r60 (g : (List UInt8) → Int → Int → Option (Int × Bool)) : List SArg → Option SRes
  | [.v (.string ⟨⟨a0_1⟩⟩), .v (.int .i64 a1_1), .v (.int .i64 a2_1)] => match g a0_1 a1_1 a2_1 with | some x => some ⟨.tuple ⟨[.int .u64 x.1, .bool x.2]⟩, [], []⟩ | none => none
  | _ => none
def s60 (g : (List UInt8) → Int → Int → Option (Int × Bool)) : Summ := ⟨[.v, .v, .v], r60 g⟩
theorem r60_eq {g : (List UInt8) → Int → Int → Option (Int × Bool)} {a0_1 : List UInt8} {a1_1 : Int} {a2_1 : Int} {x : Int × Bool} (hx : g a0_1 a1_1 a2_1 = some x) : (s60 g).run [.v (.string ⟨⟨a0_1⟩⟩), .v (.int .i64 a1_1), .v (.int .i64 a2_1)] = some ⟨.tuple ⟨[.int .u64 x.1, .bool x.2]⟩, [], []⟩ := by
  show r60 g [.v (.string ⟨⟨a0_1⟩⟩), .v (.int .i64 a1_1), .v (.int .i64 a2_1)] = _
  simp only [r60, hx]
abbrev sums60 : List (Nat × Summ) := []
def head60_1 (s : List UInt8) (ata1 : Int) (k : Int) (n : Int) (i : Int) : VM :=
  ⟨⟨60, 49, [(0, .string ⟨⟨s⟩⟩), (1, .int .i64 ata1), (2, .int .i64 k), (8, .int .u64 n), (9, .int .i64 i)], [.code k60_15, .inLoop k60_15, .inBlock 0, .code k60_20], [], false, none⟩, [], [], 0⟩
theorem loop60_1 (hS : SumsOK Try.prog (aget (sums60))) (s : List UInt8) (ata1 : Int) (k : Int) (res : Int × Bool) : ∀ fuel (st : Int × Int) (o : Int × Bool), iter (fun st => R02_Get_s1 s ata1 k st.1 st.2) fuel st = some o → (o = res) →
    Leads Try.prog 60 0 (head60_1 s ata1 k st.1 st.2) (fun v H _ => post60 res v H) := by
  intro fuel st o h hc
  refine iter_leads (head := fun st => head60_1 s ata1 k st.1 st.2) (C := fun o => (o = res)) ?_ fuel st o h hc
  clear h hc o st fuel
  intro st o h hc
  obtain ⟨n, i⟩ := st
  replace h : R02_Get_s1 s ata1 k n i = some o := h
  show Leads Try.prog 60 0 (head60_1 s ata1 k n i) (fun v H _ => post60 res v H)
  unfold R02_Get_s1 at h
  refine ev_ok tab_ok hS true 3000 ?_
  conv => whnf
  refine br.h2 h ?_ ?_ ?_
  · rfl
  · clear h; intro hb h; conv => whnf
    all_goals (cases h; cases hc)
    all_goals exact rfl
  clear h; intro hb h; conv => whnf
  replace h := oreq.elim h; have hb := h.1; replace h := h.2
  first | (refine req.intro hb ?_; conv => whnf) | skip
  obtain ⟨b, hy, h2⟩ := obind.elim h; clear h; have h := h2; clear h2
  refine rdS.intro hy ?_
  conv => whnf
  let t1 : Int := wI .u64 ((wI .u64 (n * 256)) + (wI .u64 (b.toNat : Int)))
  cases h; simp only [Sum.elim_inl, Sum.elim_inr, head60_1] at hc
  refine Leads.re hc [] rfl ?_ ?_ <;> (repeat' first | exact trivial | refine ⟨⟨_, rfl, rfl⟩, ?_⟩ | refine ⟨⟨_, _, rfl, rfl, .rowF (vI_flat _ _) id⟩, ?_⟩ | refine ⟨⟨_, _, rfl, rfl, .rowF (vS_flat _) id⟩, ?_⟩ | refine ⟨⟨_, _, rfl, rfl, .rowF (vB_flat _) id⟩, ?_⟩ | refine ⟨⟨_, _, rfl, rfl, .cells rfl⟩, ?_⟩ | refine ⟨⟨_, _, rfl, rfl, .row rfl id⟩, ?_⟩ | refine ⟨⟨_, _, rfl, rfl, .cr rfl⟩, ?_⟩ | refine ⟨⟨_, _, rfl, rfl, .rc rfl⟩, ?_⟩ | refine ⟨⟨_, _, rfl, rfl, .marks⟩, ?_⟩ | refine ⟨⟨_, _, rfl, rfl, .siter _ _⟩, ?_⟩ | refine ⟨⟨_, _, rfl, rfl, .loop rfl rfl rfl rfl (by repeat' first | exact trivial | refine ⟨rfl, ?_⟩) rfl rfl rfl rfl⟩, ?_⟩)
theorem leads60 (hS : SumsOK Try.prog (aget (sums60))) (s : List UInt8) (ata1 : Int) (k : Int) (res : Int × Bool) (h : R02_GetF s ata1 k = some res) :
    Leads Try.prog 60 0 ⟨⟨60, 49, [(0, .string ⟨⟨s⟩⟩), (1, .int .i64 ata1), (2, .int .i64 k)], [.code k60_24], [], false, none⟩, [], [], 0⟩ (fun v H _ => post60 res v H) := by
  unfold R02_GetF at h
  refine ev_ok tab_ok hS true 3000 ?_
  conv => whnf
  refine br.h h ?_ ?_ ?_
  · rfl
  · clear h; intro hb h; conv => whnf
    all_goals (cases h)
    all_goals exact rfl
  clear h; intro hb h; conv => whnf
  refine br.h h ?_ ?_ ?_
  · rfl
  · clear h; intro hb h; conv => whnf
    all_goals (cases h)
    all_goals exact rfl
  clear h; intro hb h; conv => whnf
  refine br.h h ?_ ?_ ?_
  · rfl
  · clear h; intro hb h; conv => whnf
    all_goals (cases h)
    all_goals exact rfl
  clear h; intro hb h; conv => whnf
  refine br.h h ?_ ?_ ?_
  · rfl
  · clear h; intro hb h; conv => whnf
    all_goals (cases h)
    all_goals exact rfl
  clear h; intro hb h; conv => whnf
  let t : Bool := decide (k > (wI .i64 ((s.length : Int) - ata1)))
  refine br.h h ?_ ?_ ?_
  · rfl
  · clear h; intro hb h; conv => whnf
    all_goals (cases h)
    all_goals exact rfl
  clear h; intro hb h; conv => whnf
  have hl := loop60_1 hS _ _ _ res _ _ _ h rfl; simp only [head60_1] at hl
  refine Leads.re hl [] rfl ?_ ?_ <;> (repeat' first | exact trivial | refine ⟨⟨_, rfl, rfl⟩, ?_⟩ | refine ⟨⟨_, _, rfl, rfl, .rowF (vI_flat _ _) id⟩, ?_⟩ | refine ⟨⟨_, _, rfl, rfl, .rowF (vS_flat _) id⟩, ?_⟩ | refine ⟨⟨_, _, rfl, rfl, .rowF (vB_flat _) id⟩, ?_⟩ | refine ⟨⟨_, _, rfl, rfl, .cells rfl⟩, ?_⟩ | refine ⟨⟨_, _, rfl, rfl, .row rfl id⟩, ?_⟩ | refine ⟨⟨_, _, rfl, rfl, .cr rfl⟩, ?_⟩ | refine ⟨⟨_, _, rfl, rfl, .rc rfl⟩, ?_⟩ | refine ⟨⟨_, _, rfl, rfl, .marks⟩, ?_⟩ | refine ⟨⟨_, _, rfl, rfl, .siter _ _⟩, ?_⟩ | refine ⟨⟨_, _, rfl, rfl, .loop rfl rfl rfl rfl (by repeat' first | exact trivial | refine ⟨rfl, ?_⟩) rfl rfl rfl rfl⟩, ?_⟩)
theorem ok60 (hS : SumsOK Try.prog (aget (sums60))) : SumOK Try.prog 60 (s60 (R02_GetF)) := by
  refine SumOK.of_leads tab_ok (fun ar r ha hr => ?_) ⟨Try.f60, rfl, by decide, rfl⟩
  simp only [s60] at ha hr
  unfold r60 at hr
  split at hr <;> try (cases hr; done)
  split at hr <;> cases hr
  rename_i x h
  refine ⟨_, rfl, (leads60 hS _ _ _ x h).mono fun v H t hp => ?_⟩
  cases hp
  exact Res.val rfl trivial
def R02_Get : (List UInt8) → Int → Int → Option (Int × Bool) := R02_GetF
theorem lift60 : SumOK Try.prog 60 (s60 R02_Get) := ok60 (SumsOK.of_tab trivial)
end Go.Vm.Code

namespace Go.Vm.Code
open Go Go.Vm Go.Proofs
set_option maxRecDepth 100000
set_option maxHeartbeats 4000000
set_option linter.unusedVariables false

/-! cloakroom/cloakroomref02.Must -/
def R02_MustF (R02_Get : (List UInt8) → Int → Int → Option (Int × Bool)) (s : List UInt8) (ata1 : Int) (k : Int) : Option Int :=
  (R02_Get s ata1 k).bind fun xg =>
  some (wI .i64 xg.1)
def post79 (x : Int) (v : Value) (H : Hp) : Prop := v = .int .i64 x
def r79 (g : (List UInt8) → Int → Int → Option Int) : List SArg → Option SRes
  | [.v (.string ⟨⟨a0_1⟩⟩), .v (.int .i64 a1_1), .v (.int .i64 a2_1)] => match g a0_1 a1_1 a2_1 with | some x => some ⟨.int .i64 x, [], []⟩ | none => none
  | _ => none
def s79 (g : (List UInt8) → Int → Int → Option Int) : Summ := ⟨[.v, .v, .v], r79 g⟩
theorem r79_eq {g : (List UInt8) → Int → Int → Option Int} {a0_1 : List UInt8} {a1_1 : Int} {a2_1 : Int} {x : Int} (hx : g a0_1 a1_1 a2_1 = some x) : (s79 g).run [.v (.string ⟨⟨a0_1⟩⟩), .v (.int .i64 a1_1), .v (.int .i64 a2_1)] = some ⟨.int .i64 x, [], []⟩ := by
  show r79 g [.v (.string ⟨⟨a0_1⟩⟩), .v (.int .i64 a1_1), .v (.int .i64 a2_1)] = _
  simp only [r79, hx]
abbrev sums79 (R02_Get : (List UInt8) → Int → Int → Option (Int × Bool)) : List (Nat × Summ) := [(60, s60 R02_Get)]
theorem leads79 (R02_Get : (List UInt8) → Int → Int → Option (Int × Bool)) (hS : SumsOK Try.prog (aget (sums79 R02_Get))) (s : List UInt8) (ata1 : Int) (k : Int) (res : Int) (h : R02_MustF R02_Get s ata1 k = some res) :
    Leads Try.prog 79 0 ⟨⟨79, 18, [(0, .string ⟨⟨s⟩⟩), (1, .int .i64 ata1), (2, .int .i64 k)], [.code k79_5], [], false, none⟩, [], [], 0⟩ (fun v H _ => post79 res v H) := by
  unfold R02_MustF at h
  refine ev_ok tab_ok hS true 3000 ?_
  conv => whnf
  obtain ⟨xg, hy, h2⟩ := obind.elim h; clear h; have h := h2; clear h2
  refine sumK.introF [] (sumRun_of (aqs := [.v (.string ⟨⟨s⟩⟩), .v (.int .i64 ata1), .v (.int .i64 k)]) (ra_cons rfl (ra_cons rfl (ra_cons rfl ra_nil))) (r60_eq hy) rfl rfl rfl rfl) ?_
  conv => whnf
  all_goals (cases h)
  all_goals exact rfl
theorem ok79 (R02_Get : (List UInt8) → Int → Int → Option (Int × Bool)) (hS : SumsOK Try.prog (aget (sums79 R02_Get))) : SumOK Try.prog 79 (s79 (R02_MustF R02_Get)) := by
  refine SumOK.of_leads tab_ok (fun ar r ha hr => ?_) ⟨Try.f79, rfl, by decide, rfl⟩
  simp only [s79] at ha hr
  unfold r79 at hr
  split at hr <;> try (cases hr; done)
  split at hr <;> cases hr
  rename_i x h
  refine ⟨_, rfl, (leads79 R02_Get hS _ _ _ x h).mono fun v H t hp => ?_⟩
  cases hp
  exact Res.val rfl trivial
def R02_Must : (List UInt8) → Int → Int → Option Int := R02_MustF R02_Get
theorem lift79 : SumOK Try.prog 79 (s79 R02_Must) := ok79 R02_Get (SumsOK.of_tab ⟨lift60, trivial⟩)
end Go.Vm.Code

/- Chapter 2's numbers and bytes: what the lifted functions compute. -/
namespace Go.Vm.Code
open Go Go.Vm

def putS (n k : Int) : List UInt8 := if 1 ≤ k ∧ k ≤ 8 then be n.toNat k.toNat else []
theorem octet_Put_eq {n k : Int} (h0 : 0 ≤ n) : octet_Put n k = some (putS n k) := by
  unfold octet_Put octet_PutF putS
  by_cases h1 : k < 1
  · rw [cond_p h1, if_neg (by omega)]
  by_cases h2 : k > 8
  · rw [cond_n h1, cond_p h2, if_neg (by omega)]
  rw [cond_n h1, cond_n h2, oreq_p (by omega), if_pos (by omega)]
  obtain ⟨m, rfl⟩ := Int.eq_ofNat_of_zero_le h0
  obtain ⟨j, rfl⟩ := Int.eq_ofNat_of_zero_le (show 0 ≤ k by omega)
  have key := iter_eq (step := fun (st : Int × List Int) => octet_Put_s1 (m : Int) (j : Int) st.1 st.2) (fun st => iB (st.2.take st.1.toNat) ++ be m (j - st.1.toNat)) (fun st => 0 ≤ st.1 ∧ st.1 ≤ j ∧ st.2.length = j) (fun st => (j - st.1).toNat) ?_ FUEL (0, List.replicate (j : Int).toNat 0) ⟨by simp, by simp, by simp⟩ (by rw [FUEL_eq]; simp only; omega)
  · rw [key]; simp [iB]
  rintro ⟨p, b⟩ ⟨g1, g2, g3⟩
  simp only at g1 g2 g3 ⊢
  obtain ⟨i, rfl⟩ := Int.eq_ofNat_of_zero_le g1
  unfold octet_Put_s1
  by_cases hp : i < j
  · refine .inr ⟨(((i + 1 : Nat) : Int), b.set i ((m / 256 ^ (j - 1 - i) % 256 : Nat) : Int)), ?_, ⟨by simp only; omega, by simp only; omega, by simp [g3]⟩, by simp only; omega, ?_⟩
    · simp (disch := omega) only [wI64, oreq_p, cond_p, Int.toNat_natCast]
      have e1 : min (8 * ((j : Int) - 1 - i)).toNat 64 = 8 * (j - 1 - i) := by omega
      have e0 : (2 : Int) ^ (8 * (j - 1 - i)) = ((256 ^ (j - 1 - i) : Nat) : Int) := by rw [show (256 : Nat) = 2 ^ 8 from rfl, ← Nat.pow_mul]; push_cast; rfl
      rw [e1, fdivP, wU8m, e0]
      rfl
    · simp only [Int.toNat_natCast]
      have e2 : j - i = (j - (i + 1)) + 1 := by omega
      have e3 : j - (i + 1) = j - 1 - i := by omega
      have e4 : (b.set i ((m / 256 ^ (j - 1 - i) % 256 : Nat) : Int)).take (i + 1) = b.take i ++ [((m / 256 ^ (j - 1 - i) % 256 : Nat) : Int)] := by
        rw [List.take_succ_eq_append_getElem (by simp; omega), List.take_set_of_le (Nat.le_refl _), List.getElem_set_self]
      rw [e2, e4, be, e3]
      simp only [iB, List.map_append, List.map_cons, List.map_nil, List.append_assoc, List.cons_append, List.nil_append, Int.toNat_natCast]
      congr 2
      apply UInt8.toNat_inj.1
      simp
  · refine .inl ?_
    obtain rfl : i = j := by omega
    simp (disch := omega) only [cond_n, oreq_p, Int.toNat_natCast]
    simp [be]
theorem R02_Put_eq {n k : Int} (h0 : 0 ≤ n) (h1 : n < 2 ^ 64) : R02_Put n k = some (putS n k) := by
  unfold R02_Put R02_PutF putS
  obtain ⟨m, rfl⟩ := Int.eq_ofNat_of_zero_le h0
  by_cases hk : 1 ≤ k ∧ k ≤ 8
  · rw [if_pos hk]
    obtain ⟨j, rfl⟩ := Int.eq_ofNat_of_zero_le (show 0 ≤ k by omega)
    have key := iter_eq (step := fun st => R02_Put_s1 (j : Int) st.1 st.2.1 st.2.2) (fun st => be st.1.toNat (j - st.2.2.toNat) ++ st.2.1) (fun st => 0 ≤ st.1 ∧ st.1 < 2 ^ 64 ∧ 0 ≤ st.2.2 ∧ st.2.2 ≤ j ∧ st.2.1.length < 2 ^ 20 + st.2.2.toNat) (fun st => (j - st.2.2).toNat) ?_ FUEL ((m : Int), [], 0) ⟨by simp, by simp only; omega, by simp, by simp, by simp⟩ (by rw [FUEL_eq]; simp only; omega)
    · rw [key]; simp
    rintro ⟨n, s, p⟩ ⟨g1, g2, g3, g4, g5⟩
    simp only at g1 g2 g3 g4 g5 ⊢
    obtain ⟨i, rfl⟩ := Int.eq_ofNat_of_zero_le g3
    obtain ⟨x, rfl⟩ := Int.eq_ofNat_of_zero_le g1
    unfold R02_Put_s1
    by_cases hp : i < j
    · refine .inr ⟨(((x / 256 : Nat) : Int), UInt8.ofNat x :: s, ((i + 1 : Nat) : Int)), ?_, ⟨by simp only; omega, by simp only; omega, by simp only; omega, by simp only; omega, by simp at g5 ⊢; omega⟩, by simp only; omega, ?_⟩
      · have e1 : (x : Int).tmod 256 = ((x % 256 : Nat) : Int) := by rw [Int.tmod_eq_emod_of_nonneg (by omega)]; rfl
        have e2 : (x : Int).tdiv 256 = ((x / 256 : Nat) : Int) := by rw [Int.tdiv_eq_ediv_of_nonneg (by omega)]; rfl
        rw [cond_p (by omega), cond_p (by omega), e1, e2, wU8 (by omega) (by omega)]
        simp only [List.length_cons, List.length_nil]
        rw [oreq_p (by omega), wU64 (by omega) (by omega), wI64 (by omega) (by omega), Int.toNat_natCast]
        have e3 : UInt8.ofNat (x % 256) = UInt8.ofNat x := by apply UInt8.toNat_inj.1; simp
        rw [e3]; rfl
      · simp only [Int.toNat_natCast]
        have e2 : j - i = (j - (i + 1)) + 1 := by omega
        rw [e2, be_snoc]; simp
    · refine .inl ?_
      obtain rfl : i = j := by omega
      rw [cond_n (by omega)]
      simp [be]
  · rw [if_neg hk]
    show iter _ (18446744073709551615 + 1) _ = _
    rw [iter]
    have : R02_Put_s1 k (m : Int) [] 0 = some (.inr []) := by
      unfold R02_Put_s1
      by_cases h2 : 0 < k
      · rw [cond_p h2, cond_n (by omega)]
      · rw [cond_n h2]
    simp only [this]

/-- a number read -/
def getS (s : List UInt8) (p k : Int) : Int × Bool := if 1 ≤ k ∧ k ≤ 8 ∧ 0 ≤ p ∧ p + k ≤ s.length then (((valL ((s.drop p.toNat).take k.toNat) : Nat) : Int), true) else (0, false)
theorem pow_step {v i : Nat} (h : v < 256 ^ i) (hi : i ≤ 7) : v < 2 ^ 56 := Nat.lt_of_lt_of_le h (by
  have : (256 : Nat) ^ i ≤ 256 ^ 7 := Nat.pow_le_pow_right (by decide) hi
  simpa using this)
theorem octet_Get_eq {s : List UInt8} {p k : Int} (hs : s.length < 2 ^ 61) : octet_Get s p k = some (getS s p k) := by
  unfold octet_Get octet_GetF getS
  by_cases h1 : k < 1
  · rw [cond_p h1, if_neg (by omega)]
  by_cases h2 : k > 8
  · rw [cond_n h1, cond_p h2, if_neg (by omega)]
  by_cases h3 : p < 0
  · rw [cond_n h1, cond_n h2, cond_p h3, if_neg (by omega)]
  rw [cond_n h1, cond_n h2, cond_n h3, wI64 (n := (s.length : Int) - k) (by omega) (by omega)]
  by_cases h4 : (s.length : Int) - k < p
  · simp only []
    rw [cond_p h4, if_neg (by omega)]
  simp only []
  rw [cond_n h4, wI64 (n := p + k) (by omega) (by omega), oreq_p (by omega), if_pos (by omega)]
  obtain ⟨q, rfl⟩ := Int.eq_ofNat_of_zero_le (show 0 ≤ p by omega)
  obtain ⟨j, rfl⟩ := Int.eq_ofNat_of_zero_le (show 0 ≤ k by omega)
  have e : ((q : Int) + j).toNat - (q : Int).toNat = j := by omega
  rw [e]
  simp only [Int.toNat_natCast]
  generalize ht : (s.drop q).take j = t
  have hl : t.length = j := by rw [← ht]; simp; omega
  have key := iter_eq (step := fun st => octet_Get_s1 t st.1 st.2) (fun st => (((st.1.toNat * 256 ^ (j - st.2.toNat) + valL (t.drop st.2.toNat) : Nat) : Int), true)) (fun st => 0 ≤ st.1 ∧ 0 ≤ st.2 ∧ st.2 ≤ j ∧ st.1.toNat < 256 ^ st.2.toNat) (fun st => (j - st.2).toNat) ?_ FUEL (0, 0) ⟨by simp, by simp, by simp, by simp⟩ (by rw [FUEL_eq]; simp only; omega)
  · rw [key]; simp
  rintro ⟨n, x⟩ ⟨g1, g2, g3, g4⟩
  simp only at g1 g2 g3 g4 ⊢
  obtain ⟨i, rfl⟩ := Int.eq_ofNat_of_zero_le g2
  obtain ⟨v, rfl⟩ := Int.eq_ofNat_of_zero_le g1
  simp only [Int.toNat_natCast] at g4 ⊢
  unfold octet_Get_s1
  by_cases hp : i < j
  · have hlt : i < t.length := by omega
    have hb := t[i].toNat_lt
    have hv := pow_step g4 (by omega)
    refine .inr ⟨(((v * 256 + t[i].toNat : Nat) : Int), ((i + 1 : Nat) : Int)), ?_, ⟨by simp only; omega, by simp only; omega, by simp only; omega, ?_⟩, by simp only; omega, ?_⟩
    · rw [cond_p (by omega), oreq_p (by omega)]
      have e1 : (bI t)[(i : Int).toNat]? = some (t[i].toNat : Int) := by simp [bI, hlt]
      rw [e1, Option.bind_some]
      have e2 : iorI .u64 (wI .u64 ((v : Int) * 2 ^ 8)) (wI .u64 (t[i].toNat : Int)) = ((v * 256 + t[i].toNat : Nat) : Int) := by
        rw [wU64 (by omega) (by omega), wU64 (by omega) (by omega), iorU64_low 8 (by omega) (by omega) (by omega) (by omega) (by omega)]; omega
      simp only [e2]
      rw [wI64 (by omega) (by omega)]; rfl
    · simp only [Int.toNat_natCast]
      rw [Nat.pow_succ]; omega
    · simp only [Int.toNat_natCast]
      rw [List.drop_eq_getElem_cons hlt, val_cons]
      have e3 : (t.drop (i + 1)).length = j - (i + 1) := by simp; omega
      have e4 : j - i = (j - (i + 1)) + 1 := by omega
      rw [e3, e4, Nat.pow_succ, Nat.add_mul, Nat.mul_assoc, Nat.mul_comm 256, Nat.add_assoc]
  · refine .inl ?_
    obtain rfl : i = j := by omega
    rw [cond_n (by omega)]
    simp [← hl]
theorem R02_Get_eq {s : List UInt8} {p k : Int} (hs : s.length < 2 ^ 61) : R02_Get s p k = some (getS s p k) := by
  unfold R02_Get R02_GetF getS
  by_cases h1 : k < 1
  · rw [cond_p h1, if_neg (by omega)]
  by_cases h2 : k > 8
  · rw [cond_n h1, cond_p h2, if_neg (by omega)]
  by_cases h3 : p < 0
  · rw [cond_n h1, cond_n h2, cond_p h3, if_neg (by omega)]
  by_cases h5 : p > s.length
  · rw [cond_n h1, cond_n h2, cond_n h3, cond_p h5, if_neg (by omega)]
  rw [cond_n h1, cond_n h2, cond_n h3, cond_n h5, wI64 (n := (s.length : Int) - p) (by omega) (by omega)]
  by_cases h4 : k > (s.length : Int) - p
  · simp only []
    rw [cond_p h4, if_neg (by omega)]
  simp only []
  rw [cond_n h4, if_pos (by omega)]
  obtain ⟨q, rfl⟩ := Int.eq_ofNat_of_zero_le (show 0 ≤ p by omega)
  obtain ⟨j, rfl⟩ := Int.eq_ofNat_of_zero_le (show 0 ≤ k by omega)
  simp only [Int.toNat_natCast]
  generalize ht : (s.drop q).take j = t
  have hl : t.length = j := by rw [← ht]; simp; omega
  have key := iter_eq (step := fun st => R02_Get_s1 s (q : Int) (j : Int) st.1 st.2) (fun st => (((st.1.toNat * 256 ^ (j - st.2.toNat) + valL (t.drop st.2.toNat) : Nat) : Int), true)) (fun st => 0 ≤ st.1 ∧ 0 ≤ st.2 ∧ st.2 ≤ j ∧ st.1.toNat < 256 ^ st.2.toNat) (fun st => (j - st.2).toNat) ?_ FUEL (0, 0) ⟨by simp, by simp, by simp, by simp⟩ (by rw [FUEL_eq]; simp only; omega)
  · rw [key]; simp
  rintro ⟨n, x⟩ ⟨g1, g2, g3, g4⟩
  simp only at g1 g2 g3 g4 ⊢
  obtain ⟨i, rfl⟩ := Int.eq_ofNat_of_zero_le g2
  obtain ⟨v, rfl⟩ := Int.eq_ofNat_of_zero_le g1
  simp only [Int.toNat_natCast] at g4 ⊢
  unfold R02_Get_s1
  by_cases hp : i < j
  · have hlt : i < t.length := by omega
    have hb := t[i].toNat_lt
    have hv := pow_step g4 (by omega)
    refine .inr ⟨(((v * 256 + t[i].toNat : Nat) : Int), ((i + 1 : Nat) : Int)), ?_, ⟨by simp only; omega, by simp only; omega, by simp only; omega, ?_⟩, by simp only; omega, ?_⟩
    · rw [cond_p (by omega), wI64 (n := (q : Int) + i) (by omega) (by omega), oreq_p (by omega)]
      have e0 : ((q : Int) + i).toNat = q + i := by omega
      have e1 : s[q + i]? = some t[i] := by
        subst ht
        rw [List.getElem?_eq_getElem (by omega)]
        simp
      rw [e0, e1, Option.bind_some]
      have e2 : wI .u64 ((wI .u64 ((v : Int) * 256)) + (wI .u64 (t[i].toNat : Int))) = ((v * 256 + t[i].toNat : Nat) : Int) := by
        rw [wU64 (n := (v : Int) * 256) (by omega) (by omega), wU64 (n := (t[i].toNat : Int)) (by omega) (by omega), wU64 (by omega) (by omega)]; omega
      simp only [e2]
      rw [wI64 (by omega) (by omega)]; rfl
    · simp only [Int.toNat_natCast]
      rw [Nat.pow_succ]; omega
    · simp only [Int.toNat_natCast]
      rw [List.drop_eq_getElem_cons hlt, val_cons]
      have e3 : (t.drop (i + 1)).length = j - (i + 1) := by simp; omega
      have e4 : j - i = (j - (i + 1)) + 1 := by omega
      rw [e3, e4, Nat.pow_succ, Nat.add_mul, Nat.mul_assoc, Nat.mul_comm 256, Nat.add_assoc]
  · refine .inl ?_
    obtain rfl : i = j := by omega
    rw [cond_n (by omega)]
    simp [← hl]
theorem R02_Must_eq {s : List UInt8} {p k : Int} (hs : s.length < 2 ^ 61) : R02_Must s p k = some (wI .i64 (getS s p k).1) := by
  unfold R02_Must R02_MustF
  rw [R02_Get_eq hs]; rfl
end Go.Vm.Code

namespace Go.Vm.Code
open Go Go.Vm Go.Proofs
set_option maxRecDepth 100000
set_option maxHeartbeats 4000000
set_option linter.unusedVariables false

/-! cloakroom/tuple.within -/
def tuple_within_s1 (most : Int) (l : List Int) (t9 : Int) : Option (Sum Int Bool) :=
  cond (decide (t9 < (l.length : Int)))
    (
    oreq (decide ((0 : Int) ≤ t9 ∧ t9 < (l.length : Int))) <|
    (l[t9.toNat]?).bind fun (e : Int) =>
    cond (decide (e < 0))
      (
      some (.inr (false)))
      (
      cond (decide (e > most))
        (
        some (.inr (false)))
        (
        some (.inl (wI .i64 (t9 + 1))))))
    (
    some (.inr (true)))
def tuple_withinF (most : Int) (l : List Int) : Option Bool :=
  iter (fun st => tuple_within_s1 most l st) FUEL 0
def post140 (x : Bool) (v : Value) (H : Hp) : Prop := v = .bool x
def r140 (g : Int → (List Int) → Option Bool) : List SArg → Option SRes
  | [.v (.int .i64 a0_1), .sl n1 cs1] => match unL (asI .i64) cs1 with | some y1 => (match g a0_1 y1 with | some x => some ⟨.bool x, [], []⟩ | none => none) | none => none
  | _ => none
def s140 (g : Int → (List Int) → Option Bool) : Summ := ⟨[.v, .sl 1], r140 g⟩
theorem r140_eq {g : Int → (List Int) → Option Bool} {a0_1 : Int} {y1 : List Int} {x : Bool} (hx : g a0_1 y1 = some x) : (s140 g).run [.v (.int .i64 a0_1), .sl y1.length (vI .i64 y1)] = some ⟨.bool x, [], []⟩ := by
  show r140 g [.v (.int .i64 a0_1), .sl y1.length (vI .i64 y1)] = _
  simp only [r140, unI_vI, hx]
abbrev sums140 : List (Nat × Summ) := []
def head140_1 (most : Int) (l : List Int) (t9 : Int) : VM :=
  ⟨⟨140, 21, [(0, .int .i64 most), (7, .slice (some ⟨0, 0, none⟩) l.length 1), (8, .int .i64 (l.length : Int)), (9, .int .i64 t9)], [.code k140_15, .inLoop k140_15, .inBlock 0, .code k140_20], [], false, none⟩, [], [(0, .row false (vI .i64 l))], 1⟩
theorem loop140_1 (hS : SumsOK Try.prog (aget (sums140))) (most : Int) (l : List Int) (res : Bool) : ∀ fuel (st : Int) (o : Bool), iter (fun st => tuple_within_s1 most l st) fuel st = some o → (o = res) →
    Leads Try.prog 140 1 (head140_1 most l st) (fun v H _ => post140 res v H) := by
  intro fuel st o h hc
  refine iter_leads (head := fun st => head140_1 most l st) (C := fun o => (o = res)) ?_ fuel st o h hc
  clear h hc o st fuel
  intro t9 o h hc
  replace h : tuple_within_s1 most l t9 = some o := h
  show Leads Try.prog 140 1 (head140_1 most l t9) (fun v H _ => post140 res v H)
  unfold tuple_within_s1 at h
  refine ev_ok tab_ok hS true 3000 ?_
  conv => whnf
  refine br.h2 h ?_ ?_ ?_
  · rfl
  · clear h; intro hb h; conv => whnf
    all_goals (cases h; cases hc)
    all_goals exact rfl
  clear h; intro hb h; conv => whnf
  replace h := oreq.elim h; have hb := h.1; replace h := h.2
  first | (refine req.intro hb ?_; conv => whnf) | skip
  obtain ⟨e, hy, h2⟩ := obind.elim h; clear h; have h := h2; clear h2
  refine rd.I hy (by first | rfl | (rw [Nat.zero_add, Nat.mul_one]; done) | omega) ?_
  conv => whnf
  refine br.h h ?_ ?_ ?_
  · rfl
  · clear h; intro hb h; conv => whnf
    all_goals (cases h; cases hc)
    all_goals exact rfl
  clear h; intro hb h; conv => whnf
  refine br.h h ?_ ?_ ?_
  · rfl
  · clear h; intro hb h; conv => whnf
    all_goals (cases h; cases hc)
    all_goals exact rfl
  clear h; intro hb h; conv => whnf
  cases h; simp only [Sum.elim_inl, Sum.elim_inr, head140_1] at hc
  refine Leads.re hc [(0, 0)] rfl ?_ ?_ <;> (repeat' first | exact trivial | refine ⟨⟨_, rfl, rfl⟩, ?_⟩ | refine ⟨⟨_, _, rfl, rfl, .rowF (vI_flat _ _) id⟩, ?_⟩ | refine ⟨⟨_, _, rfl, rfl, .rowF (vS_flat _) id⟩, ?_⟩ | refine ⟨⟨_, _, rfl, rfl, .rowF (vB_flat _) id⟩, ?_⟩ | refine ⟨⟨_, _, rfl, rfl, .cells rfl⟩, ?_⟩ | refine ⟨⟨_, _, rfl, rfl, .row rfl id⟩, ?_⟩ | refine ⟨⟨_, _, rfl, rfl, .cr rfl⟩, ?_⟩ | refine ⟨⟨_, _, rfl, rfl, .rc rfl⟩, ?_⟩ | refine ⟨⟨_, _, rfl, rfl, .marks⟩, ?_⟩ | refine ⟨⟨_, _, rfl, rfl, .siter _ _⟩, ?_⟩ | refine ⟨⟨_, _, rfl, rfl, .loop rfl rfl rfl rfl (by repeat' first | exact trivial | refine ⟨rfl, ?_⟩) rfl rfl rfl rfl⟩, ?_⟩)
theorem leads140 (hS : SumsOK Try.prog (aget (sums140))) (most : Int) (l : List Int) (res : Bool) (h : tuple_withinF most l = some res) :
    Leads Try.prog 140 1 ⟨⟨140, 21, [(0, .int .i64 most), (1, .slice (some ⟨0, 0, none⟩) l.length 1)], [.code k140_22], [], false, none⟩, [], [(0, .row false (vI .i64 l))], 1⟩ (fun v H _ => post140 res v H) := by
  unfold tuple_withinF at h
  refine ev_ok tab_ok hS true 3000 ?_
  conv => whnf
  have hl := loop140_1 hS _ _ res _ _ _ h rfl; simp only [head140_1] at hl
  refine Leads.re hl [(0, 0)] rfl ?_ ?_ <;> (repeat' first | exact trivial | refine ⟨⟨_, rfl, rfl⟩, ?_⟩ | refine ⟨⟨_, _, rfl, rfl, .rowF (vI_flat _ _) id⟩, ?_⟩ | refine ⟨⟨_, _, rfl, rfl, .rowF (vS_flat _) id⟩, ?_⟩ | refine ⟨⟨_, _, rfl, rfl, .rowF (vB_flat _) id⟩, ?_⟩ | refine ⟨⟨_, _, rfl, rfl, .cells rfl⟩, ?_⟩ | refine ⟨⟨_, _, rfl, rfl, .row rfl id⟩, ?_⟩ | refine ⟨⟨_, _, rfl, rfl, .cr rfl⟩, ?_⟩ | refine ⟨⟨_, _, rfl, rfl, .rc rfl⟩, ?_⟩ | refine ⟨⟨_, _, rfl, rfl, .marks⟩, ?_⟩ | refine ⟨⟨_, _, rfl, rfl, .siter _ _⟩, ?_⟩ | refine ⟨⟨_, _, rfl, rfl, .loop rfl rfl rfl rfl (by repeat' first | exact trivial | refine ⟨rfl, ?_⟩) rfl rfl rfl rfl⟩, ?_⟩)
theorem ok140 (hS : SumsOK Try.prog (aget (sums140))) : SumOK Try.prog 140 (s140 (tuple_withinF)) := by
  refine SumOK.of_leads tab_ok (fun ar r ha hr => ?_) ⟨Try.f140, rfl, by decide, rfl⟩
  simp only [s140] at ha hr
  unfold r140 at hr
  split at hr <;> try (cases hr; done)
  split at hr <;> try (cases hr; done)
  rename_i y1 ey1
  have ey1 := unI_eq ey1
  split at hr <;> cases hr
  rename_i x h
  subst ey1
  simp only [argsOK, vI_len, vB_len, vS_len, Nat.mul_one] at ha
  obtain ⟨-, hn1, -, -⟩ := ha
  subst hn1
  refine ⟨_, rfl, (leads140 hS _ _ x h).mono fun v H t hp => ?_⟩
  cases hp
  exact Res.val rfl trivial
def tuple_within : Int → (List Int) → Option Bool := tuple_withinF
theorem lift140 : SumOK Try.prog 140 (s140 tuple_within) := ok140 (SumsOK.of_tab trivial)
end Go.Vm.Code

namespace Go.Vm.Code
open Go Go.Vm Go.Proofs
set_option maxRecDepth 100000
set_option maxHeartbeats 4000000
set_option linter.unusedVariables false

/-! cloakroom/addr.Right -/
def addr_RightF (a : api_Addr) : Option Bool :=
  cond (a.V6)
    (
    some (true))
    (
    cond (a.Hi == 0)
      (
      some (decide (a.Lo < 4294967296)))
      (
      some (false)))
def post141 (x : Bool) (v : Value) (H : Hp) : Prop := v = .bool x
def r141 (g : api_Addr → Option Bool) : List SArg → Option SRes
  | [.v (.agg ⟨[.bool a0_1, .int .u64 a0_2, .int .u64 a0_3]⟩)] => match g (api_Addr.mk a0_1 a0_2 a0_3) with | some x => some ⟨.bool x, [], []⟩ | none => none
  | _ => none
def s141 (g : api_Addr → Option Bool) : Summ := ⟨[.v], r141 g⟩
theorem r141_eq {g : api_Addr → Option Bool} {a0_1 : Bool} {a0_2 : Int} {a0_3 : Int} {x : Bool} (hx : g (api_Addr.mk a0_1 a0_2 a0_3) = some x) : (s141 g).run [.v (.agg ⟨[.bool a0_1, .int .u64 a0_2, .int .u64 a0_3]⟩)] = some ⟨.bool x, [], []⟩ := by
  show r141 g [.v (.agg ⟨[.bool a0_1, .int .u64 a0_2, .int .u64 a0_3]⟩)] = _
  simp only [r141, hx]
abbrev sums141 : List (Nat × Summ) := []
theorem leads141 (hS : SumsOK Try.prog (aget (sums141))) (a : api_Addr) (res : Bool) (h : addr_RightF a = some res) :
    Leads Try.prog 141 0 ⟨⟨141, 15, [(0, .agg ⟨[.bool a.V6, .int .u64 a.Hi, .int .u64 a.Lo]⟩)], [.code k141_3], [], false, none⟩, [], [], 0⟩ (fun v H _ => post141 res v H) := by
  unfold addr_RightF at h
  refine ev_ok tab_ok hS true 3000 ?_
  conv => whnf
  refine br.h h ?_ ?_ ?_
  · rfl
  · clear h; intro hb h; conv => whnf
    all_goals (cases h)
    all_goals exact rfl
  clear h; intro hb h; conv => whnf
  refine br.h h ?_ ?_ ?_
  · rfl
  · clear h; intro hb h; conv => whnf
    all_goals (cases h)
    all_goals exact rfl
  clear h; intro hb h; conv => whnf
  all_goals (cases h)
  all_goals exact rfl
theorem ok141 (hS : SumsOK Try.prog (aget (sums141))) : SumOK Try.prog 141 (s141 (addr_RightF)) := by
  refine SumOK.of_leads tab_ok (fun ar r ha hr => ?_) ⟨Try.f141, rfl, by decide, rfl⟩
  simp only [s141] at ha hr
  unfold r141 at hr
  split at hr <;> try (cases hr; done)
  split at hr <;> cases hr
  rename_i x h
  refine ⟨_, rfl, (leads141 hS _ x h).mono fun v H t hp => ?_⟩
  cases hp
  exact Res.val rfl trivial
def addr_Right : api_Addr → Option Bool := addr_RightF
theorem lift141 : SumOK Try.prog 141 (s141 addr_Right) := ok141 (SumsOK.of_tab trivial)
end Go.Vm.Code

namespace Go.Vm.Code
open Go Go.Vm Go.Proofs
set_option maxRecDepth 100000
set_option maxHeartbeats 4000000
set_option linter.unusedVariables false

/-! cloakroom/tuple.Right -/
def tuple_RightF (addr_Right : api_Addr → Option Bool) (tuple_within : Int → (List Int) → Option Bool) (t : api_Tuple) : Option Bool :=
  (tuple_within 255 [t.Proto]).bind fun w =>
  cond (w)
    (
    (tuple_within 65535 [t.SPort, t.DPort]).bind fun w1 =>
    cond (w1)
      (
      (addr_Right t.Src).bind fun xr =>
      cond (xr)
        (
        (addr_Right t.Dst).bind fun xr1 =>
        cond (xr1)
          (
          some (t.Src.V6 == t.Dst.V6))
          (
          some (false)))
        (
        some (false)))
      (
      some (false)))
    (
    some (false))
def post119 (x : Bool) (v : Value) (H : Hp) : Prop := v = .bool x
def r119 (g : api_Tuple → Option Bool) : List SArg → Option SRes
  | [.v (.agg ⟨[.int .i64 a0_1, .bool a0_2, .int .u64 a0_3, .int .u64 a0_4, .bool a0_5, .int .u64 a0_6, .int .u64 a0_7, .int .i64 a0_8, .int .i64 a0_9]⟩)] => match g (api_Tuple.mk a0_1 (api_Addr.mk a0_2 a0_3 a0_4) (api_Addr.mk a0_5 a0_6 a0_7) a0_8 a0_9) with | some x => some ⟨.bool x, [], []⟩ | none => none
  | _ => none
def s119 (g : api_Tuple → Option Bool) : Summ := ⟨[.v], r119 g⟩
theorem r119_eq {g : api_Tuple → Option Bool} {a0_1 : Int} {a0_2 : Bool} {a0_3 : Int} {a0_4 : Int} {a0_5 : Bool} {a0_6 : Int} {a0_7 : Int} {a0_8 : Int} {a0_9 : Int} {x : Bool} (hx : g (api_Tuple.mk a0_1 (api_Addr.mk a0_2 a0_3 a0_4) (api_Addr.mk a0_5 a0_6 a0_7) a0_8 a0_9) = some x) : (s119 g).run [.v (.agg ⟨[.int .i64 a0_1, .bool a0_2, .int .u64 a0_3, .int .u64 a0_4, .bool a0_5, .int .u64 a0_6, .int .u64 a0_7, .int .i64 a0_8, .int .i64 a0_9]⟩)] = some ⟨.bool x, [], []⟩ := by
  show r119 g [.v (.agg ⟨[.int .i64 a0_1, .bool a0_2, .int .u64 a0_3, .int .u64 a0_4, .bool a0_5, .int .u64 a0_6, .int .u64 a0_7, .int .i64 a0_8, .int .i64 a0_9]⟩)] = _
  simp only [r119, hx]
abbrev sums119 (addr_Right : api_Addr → Option Bool) (tuple_within : Int → (List Int) → Option Bool) : List (Nat × Summ) := [(141, s141 addr_Right), (140, s140 tuple_within)]
theorem leads119 (addr_Right : api_Addr → Option Bool) (tuple_within : Int → (List Int) → Option Bool) (hS : SumsOK Try.prog (aget (sums119 addr_Right tuple_within))) (t : api_Tuple) (res : Bool) (h : tuple_RightF addr_Right tuple_within t = some res) :
    Leads Try.prog 119 0 ⟨⟨119, 34, [(0, .agg ⟨[.int .i64 t.Proto, .bool t.Src.V6, .int .u64 t.Src.Hi, .int .u64 t.Src.Lo, .bool t.Dst.V6, .int .u64 t.Dst.Hi, .int .u64 t.Dst.Lo, .int .i64 t.SPort, .int .i64 t.DPort]⟩)], [.code k119_3], [], false, none⟩, [], [], 0⟩ (fun v H _ => post119 res v H) := by
  unfold tuple_RightF at h
  refine ev_ok tab_ok hS true 3000 ?_
  conv => whnf
  obtain ⟨w, hy, h2⟩ := obind.elim h; clear h; have h := h2; clear h2
  refine sumK.introF [] (sumRun_of (aqs := [.v (.int .i64 255), .sl ([t.Proto] : List Int).length (vI .i64 [t.Proto])]) (ra_cons rfl (ra_cons (by first | rfl | exact ra_allI rfl rfl (by first | rfl | omega) (by first | rfl | (simp; done)) | exact ra_slI rfl rfl (by first | rfl | omega) (by first | rfl | omega) (by first | omega | (simp at *; omega))) ra_nil)) (r140_eq hy) rfl rfl rfl rfl) ?_
  conv => whnf
  refine br.h2 h ?_ ?_ ?_
  · rfl
  · clear h; intro hb h; conv => whnf
    all_goals (cases h)
    all_goals exact rfl
  clear h; intro hb h; conv => whnf
  obtain ⟨w1, hy, h2⟩ := obind.elim h; clear h; have h := h2; clear h2
  refine sumK.introF [] (sumRun_of (aqs := [.v (.int .i64 65535), .sl ([t.SPort, t.DPort] : List Int).length (vI .i64 [t.SPort, t.DPort])]) (ra_cons rfl (ra_cons (by first | rfl | exact ra_allI rfl rfl (by first | rfl | omega) (by first | rfl | (simp; done)) | exact ra_slI rfl rfl (by first | rfl | omega) (by first | rfl | omega) (by first | omega | (simp at *; omega))) ra_nil)) (r140_eq hy) rfl rfl rfl rfl) ?_
  conv => whnf
  refine br.h2 h ?_ ?_ ?_
  · rfl
  · clear h; intro hb h; conv => whnf
    all_goals (cases h)
    all_goals exact rfl
  clear h; intro hb h; conv => whnf
  obtain ⟨xr, hy, h2⟩ := obind.elim h; clear h; have h := h2; clear h2
  refine sumK.introF [] (sumRun_of (aqs := [.v (.agg ⟨[.bool t.Src.V6, .int .u64 t.Src.Hi, .int .u64 t.Src.Lo]⟩)]) (ra_cons rfl ra_nil) (r141_eq hy) rfl rfl rfl rfl) ?_
  conv => whnf
  refine br.h2 h ?_ ?_ ?_
  · rfl
  · clear h; intro hb h; conv => whnf
    all_goals (cases h)
    all_goals exact rfl
  clear h; intro hb h; conv => whnf
  obtain ⟨xr1, hy, h2⟩ := obind.elim h; clear h; have h := h2; clear h2
  refine sumK.introF [] (sumRun_of (aqs := [.v (.agg ⟨[.bool t.Dst.V6, .int .u64 t.Dst.Hi, .int .u64 t.Dst.Lo]⟩)]) (ra_cons rfl ra_nil) (r141_eq hy) rfl rfl rfl rfl) ?_
  conv => whnf
  refine br.h h ?_ ?_ ?_
  · rfl
  · clear h; intro hb h; conv => whnf
    all_goals (cases h)
    all_goals exact rfl
  clear h; intro hb h; conv => whnf
  all_goals (cases h)
  all_goals exact rfl
theorem ok119 (addr_Right : api_Addr → Option Bool) (tuple_within : Int → (List Int) → Option Bool) (hS : SumsOK Try.prog (aget (sums119 addr_Right tuple_within))) : SumOK Try.prog 119 (s119 (tuple_RightF addr_Right tuple_within)) := by
  refine SumOK.of_leads tab_ok (fun ar r ha hr => ?_) ⟨Try.f119, rfl, by decide, rfl⟩
  simp only [s119] at ha hr
  unfold r119 at hr
  split at hr <;> try (cases hr; done)
  split at hr <;> cases hr
  rename_i x h
  refine ⟨_, rfl, (leads119 addr_Right tuple_within hS _ x h).mono fun v H t hp => ?_⟩
  cases hp
  exact Res.val rfl trivial
def tuple_Right : api_Tuple → Option Bool := tuple_RightF addr_Right tuple_within
theorem lift119 : SumOK Try.prog 119 (s119 tuple_Right) := ok119 addr_Right tuple_within (SumsOK.of_tab ⟨lift141, lift140, trivial⟩)
end Go.Vm.Code

namespace Go.Vm.Code
open Go Go.Vm Go.Proofs
set_option maxRecDepth 100000
set_option maxHeartbeats 4000000
set_option linter.unusedVariables false

/-! cloakroom/tuple.kind -/
def tuple_kindF (six : Bool) : Option Int :=
  cond (six)
    (
    some (6))
    (
    some (4))
def post120 (x : Int) (v : Value) (H : Hp) : Prop := v = .int .i64 x
def r120 (g : Bool → Option Int) : List SArg → Option SRes
  | [.v (.bool a0_1)] => match g a0_1 with | some x => some ⟨.int .i64 x, [], []⟩ | none => none
  | _ => none
def s120 (g : Bool → Option Int) : Summ := ⟨[.v], r120 g⟩
theorem r120_eq {g : Bool → Option Int} {a0_1 : Bool} {x : Int} (hx : g a0_1 = some x) : (s120 g).run [.v (.bool a0_1)] = some ⟨.int .i64 x, [], []⟩ := by
  show r120 g [.v (.bool a0_1)] = _
  simp only [r120, hx]
abbrev sums120 : List (Nat × Summ) := []
theorem leads120 (hS : SumsOK Try.prog (aget (sums120))) (six : Bool) (res : Int) (h : tuple_kindF six = some res) :
    Leads Try.prog 120 0 ⟨⟨120, 4, [(0, .bool six)], [.code k120_9], [], false, none⟩, [], [], 0⟩ (fun v H _ => post120 res v H) := by
  unfold tuple_kindF at h
  refine ev_ok tab_ok hS true 3000 ?_
  conv => whnf
  refine br.h h ?_ ?_ ?_
  · rfl
  · clear h; intro hb h; conv => whnf
    all_goals (cases h)
    all_goals exact rfl
  clear h; intro hb h; conv => whnf
  all_goals (cases h)
  all_goals exact rfl
theorem ok120 (hS : SumsOK Try.prog (aget (sums120))) : SumOK Try.prog 120 (s120 (tuple_kindF)) := by
  refine SumOK.of_leads tab_ok (fun ar r ha hr => ?_) ⟨Try.f120, rfl, by decide, rfl⟩
  simp only [s120] at ha hr
  unfold r120 at hr
  split at hr <;> try (cases hr; done)
  split at hr <;> cases hr
  rename_i x h
  refine ⟨_, rfl, (leads120 hS _ x h).mono fun v H t hp => ?_⟩
  cases hp
  exact Res.val rfl trivial
def tuple_kind : Bool → Option Int := tuple_kindF
theorem lift120 : SumOK Try.prog 120 (s120 tuple_kind) := ok120 (SumsOK.of_tab trivial)
end Go.Vm.Code

namespace Go.Vm.Code
open Go Go.Vm Go.Proofs
set_option maxRecDepth 100000
set_option maxHeartbeats 4000000
set_option linter.unusedVariables false

/-! cloakroom/addr.Put -/
def addr_PutF (addr_Right : api_Addr → Option Bool) (octet_Put : Int → Int → Option (List UInt8)) (a : api_Addr) : Option (List UInt8) :=
  (addr_Right a).bind fun xr =>
  cond (!xr)
    (
    some ([]))
    (
    cond (a.V6)
      (
      (octet_Put a.Hi 8).bind fun p =>
      (octet_Put a.Lo 8).bind fun p1 =>
      oreq (decide (p.length + p1.length < 2 ^ 63)) <|
      some (p ++ p1))
      (
      (octet_Put a.Lo 4).bind fun p2 =>
      some (p2)))
def post121 (x : List UInt8) (v : Value) (H : Hp) : Prop := v = .string ⟨⟨x⟩⟩
def r121 (g : api_Addr → Option (List UInt8)) : List SArg → Option SRes
  | [.v (.agg ⟨[.bool a0_1, .int .u64 a0_2, .int .u64 a0_3]⟩)] => match g (api_Addr.mk a0_1 a0_2 a0_3) with | some x => some ⟨.string ⟨⟨x⟩⟩, [], []⟩ | none => none
  | _ => none
def s121 (g : api_Addr → Option (List UInt8)) : Summ := ⟨[.v], r121 g⟩
theorem r121_eq {g : api_Addr → Option (List UInt8)} {a0_1 : Bool} {a0_2 : Int} {a0_3 : Int} {x : List UInt8} (hx : g (api_Addr.mk a0_1 a0_2 a0_3) = some x) : (s121 g).run [.v (.agg ⟨[.bool a0_1, .int .u64 a0_2, .int .u64 a0_3]⟩)] = some ⟨.string ⟨⟨x⟩⟩, [], []⟩ := by
  show r121 g [.v (.agg ⟨[.bool a0_1, .int .u64 a0_2, .int .u64 a0_3]⟩)] = _
  simp only [r121, hx]
abbrev sums121 (addr_Right : api_Addr → Option Bool) (octet_Put : Int → Int → Option (List UInt8)) : List (Nat × Summ) := [(141, s141 addr_Right), (63, s63 octet_Put)]
theorem leads121 (addr_Right : api_Addr → Option Bool) (octet_Put : Int → Int → Option (List UInt8)) (hS : SumsOK Try.prog (aget (sums121 addr_Right octet_Put))) (a : api_Addr) (res : List UInt8) (h : addr_PutF addr_Right octet_Put a = some res) :
    Leads Try.prog 121 0 ⟨⟨121, 20, [(0, .agg ⟨[.bool a.V6, .int .u64 a.Hi, .int .u64 a.Lo]⟩)], [.code k121_15], [], false, none⟩, [], [], 0⟩ (fun v H _ => post121 res v H) := by
  unfold addr_PutF at h
  refine ev_ok tab_ok hS true 3000 ?_
  conv => whnf
  obtain ⟨xr, hy, h2⟩ := obind.elim h; clear h; have h := h2; clear h2
  refine sumK.introF [] (sumRun_of (aqs := [.v (.agg ⟨[.bool a.V6, .int .u64 a.Hi, .int .u64 a.Lo]⟩)]) (ra_cons rfl ra_nil) (r141_eq hy) rfl rfl rfl rfl) ?_
  conv => whnf
  refine br.h h ?_ ?_ ?_
  · rfl
  · clear h; intro hb h; conv => whnf
    all_goals (cases h)
    all_goals exact rfl
  clear h; intro hb h; conv => whnf
  refine br.h2 h ?_ ?_ ?_
  · rfl
  · clear h; intro hb h; conv => whnf
    obtain ⟨p2, hy, h2⟩ := obind.elim h; clear h; have h := h2; clear h2
    refine sumK.introF [] (sumRun_of (aqs := [.v (.int .u64 a.Lo), .v (.int .i64 4)]) (ra_cons rfl (ra_cons rfl ra_nil)) (r63_eq hy) rfl rfl rfl rfl) ?_
    conv => whnf
    all_goals (cases h)
    all_goals exact rfl
  clear h; intro hb h; conv => whnf
  obtain ⟨p, hy, h2⟩ := obind.elim h; clear h; have h := h2; clear h2
  refine sumK.introF [] (sumRun_of (aqs := [.v (.int .u64 a.Hi), .v (.int .i64 8)]) (ra_cons rfl (ra_cons rfl ra_nil)) (r63_eq hy) rfl rfl rfl rfl) ?_
  conv => whnf
  obtain ⟨p1, hy, h2⟩ := obind.elim h; clear h; have h := h2; clear h2
  refine sumK.introF [] (sumRun_of (aqs := [.v (.int .u64 a.Lo), .v (.int .i64 8)]) (ra_cons rfl (ra_cons rfl ra_nil)) (r63_eq hy) rfl rfl rfl rfl) ?_
  conv => whnf
  replace h := oreq.elim h; have hb := h.1; replace h := h.2
  first | (refine req.intro hb ?_; conv => whnf) | skip
  all_goals (cases h)
  all_goals exact rfl
theorem ok121 (addr_Right : api_Addr → Option Bool) (octet_Put : Int → Int → Option (List UInt8)) (hS : SumsOK Try.prog (aget (sums121 addr_Right octet_Put))) : SumOK Try.prog 121 (s121 (addr_PutF addr_Right octet_Put)) := by
  refine SumOK.of_leads tab_ok (fun ar r ha hr => ?_) ⟨Try.f121, rfl, by decide, rfl⟩
  simp only [s121] at ha hr
  unfold r121 at hr
  split at hr <;> try (cases hr; done)
  split at hr <;> cases hr
  rename_i x h
  refine ⟨_, rfl, (leads121 addr_Right octet_Put hS _ x h).mono fun v H t hp => ?_⟩
  cases hp
  exact Res.val rfl trivial
def addr_Put : api_Addr → Option (List UInt8) := addr_PutF addr_Right octet_Put
theorem lift121 : SumOK Try.prog 121 (s121 addr_Put) := ok121 addr_Right octet_Put (SumsOK.of_tab ⟨lift141, lift63, trivial⟩)
end Go.Vm.Code

namespace Go.Vm.Code
open Go Go.Vm Go.Proofs
set_option maxRecDepth 100000
set_option maxHeartbeats 4000000
set_option linter.unusedVariables false

/-! cloakroom/tuple.Put -/
def tuple_PutF (addr_Put : api_Addr → Option (List UInt8)) (octet_Put : Int → Int → Option (List UInt8)) (tuple_Right : api_Tuple → Option Bool) (tuple_kind : Bool → Option Int) (t : api_Tuple) : Option (List UInt8) :=
  (tuple_Right t).bind fun xr =>
  cond (!xr)
    (
    some ([]))
    (
    (tuple_kind t.Src.V6).bind fun k =>
    let t1 := wI .u64 (iorI .i64 (wI .i64 (k * 2 ^ 8)) t.Proto)
    (octet_Put t1 2).bind fun p =>
    (addr_Put t.Src).bind fun p1 =>
    oreq (decide (p.length + p1.length < 2 ^ 63)) <|
    (addr_Put t.Dst).bind fun p2 =>
    oreq (decide ((p ++ p1).length + p2.length < 2 ^ 63)) <|
    let t2 := iorI .u64 (wI .u64 ((wI .u64 t.SPort) * 2 ^ 16)) (wI .u64 t.DPort)
    (octet_Put t2 4).bind fun p3 =>
    oreq (decide (((p ++ p1) ++ p2).length + p3.length < 2 ^ 63)) <|
    some (((p ++ p1) ++ p2) ++ p3))
def post96 (x : List UInt8) (v : Value) (H : Hp) : Prop := v = .string ⟨⟨x⟩⟩
def r96 (g : api_Tuple → Option (List UInt8)) : List SArg → Option SRes
  | [.v (.agg ⟨[.int .i64 a0_1, .bool a0_2, .int .u64 a0_3, .int .u64 a0_4, .bool a0_5, .int .u64 a0_6, .int .u64 a0_7, .int .i64 a0_8, .int .i64 a0_9]⟩)] => match g (api_Tuple.mk a0_1 (api_Addr.mk a0_2 a0_3 a0_4) (api_Addr.mk a0_5 a0_6 a0_7) a0_8 a0_9) with | some x => some ⟨.string ⟨⟨x⟩⟩, [], []⟩ | none => none
  | _ => none
def s96 (g : api_Tuple → Option (List UInt8)) : Summ := ⟨[.v], r96 g⟩
theorem r96_eq {g : api_Tuple → Option (List UInt8)} {a0_1 : Int} {a0_2 : Bool} {a0_3 : Int} {a0_4 : Int} {a0_5 : Bool} {a0_6 : Int} {a0_7 : Int} {a0_8 : Int} {a0_9 : Int} {x : List UInt8} (hx : g (api_Tuple.mk a0_1 (api_Addr.mk a0_2 a0_3 a0_4) (api_Addr.mk a0_5 a0_6 a0_7) a0_8 a0_9) = some x) : (s96 g).run [.v (.agg ⟨[.int .i64 a0_1, .bool a0_2, .int .u64 a0_3, .int .u64 a0_4, .bool a0_5, .int .u64 a0_6, .int .u64 a0_7, .int .i64 a0_8, .int .i64 a0_9]⟩)] = some ⟨.string ⟨⟨x⟩⟩, [], []⟩ := by
  show r96 g [.v (.agg ⟨[.int .i64 a0_1, .bool a0_2, .int .u64 a0_3, .int .u64 a0_4, .bool a0_5, .int .u64 a0_6, .int .u64 a0_7, .int .i64 a0_8, .int .i64 a0_9]⟩)] = _
  simp only [r96, hx]
abbrev sums96 (addr_Put : api_Addr → Option (List UInt8)) (octet_Put : Int → Int → Option (List UInt8)) (tuple_Right : api_Tuple → Option Bool) (tuple_kind : Bool → Option Int) : List (Nat × Summ) := [(121, s121 addr_Put), (63, s63 octet_Put), (119, s119 tuple_Right), (120, s120 tuple_kind)]
theorem leads96 (addr_Put : api_Addr → Option (List UInt8)) (octet_Put : Int → Int → Option (List UInt8)) (tuple_Right : api_Tuple → Option Bool) (tuple_kind : Bool → Option Int) (hS : SumsOK Try.prog (aget (sums96 addr_Put octet_Put tuple_Right tuple_kind))) (t : api_Tuple) (res : List UInt8) (h : tuple_PutF addr_Put octet_Put tuple_Right tuple_kind t = some res) :
    Leads Try.prog 96 0 ⟨⟨96, 34, [(0, .agg ⟨[.int .i64 t.Proto, .bool t.Src.V6, .int .u64 t.Src.Hi, .int .u64 t.Src.Lo, .bool t.Dst.V6, .int .u64 t.Dst.Hi, .int .u64 t.Dst.Lo, .int .i64 t.SPort, .int .i64 t.DPort]⟩)], [.code k96_9], [], false, none⟩, [], [], 0⟩ (fun v H _ => post96 res v H) := by
  unfold tuple_PutF at h
  refine ev_ok tab_ok hS true 3000 ?_
  conv => whnf
  obtain ⟨xr, hy, h2⟩ := obind.elim h; clear h; have h := h2; clear h2
  refine sumK.introF [] (sumRun_of (aqs := [.v (.agg ⟨[.int .i64 t.Proto, .bool t.Src.V6, .int .u64 t.Src.Hi, .int .u64 t.Src.Lo, .bool t.Dst.V6, .int .u64 t.Dst.Hi, .int .u64 t.Dst.Lo, .int .i64 t.SPort, .int .i64 t.DPort]⟩)]) (ra_cons rfl ra_nil) (r119_eq hy) rfl rfl rfl rfl) ?_
  conv => whnf
  refine br.h h ?_ ?_ ?_
  · rfl
  · clear h; intro hb h; conv => whnf
    all_goals (cases h)
    all_goals exact rfl
  clear h; intro hb h; conv => whnf
  obtain ⟨k, hy, h2⟩ := obind.elim h; clear h; have h := h2; clear h2
  refine sumK.introF [] (sumRun_of (aqs := [.v (.bool t.Src.V6)]) (ra_cons rfl ra_nil) (r120_eq hy) rfl rfl rfl rfl) ?_
  conv => whnf
  let t1 : Int := wI .u64 (iorI .i64 (wI .i64 (k * 2 ^ 8)) t.Proto)
  obtain ⟨p, hy, h2⟩ := obind.elim h; clear h; have h := h2; clear h2
  refine sumK.introF [] (sumRun_of (aqs := [.v (.int .u64 t1), .v (.int .i64 2)]) (ra_cons rfl (ra_cons rfl ra_nil)) (r63_eq hy) rfl rfl rfl rfl) ?_
  conv => whnf
  obtain ⟨p1, hy, h2⟩ := obind.elim h; clear h; have h := h2; clear h2
  refine sumK.introF [] (sumRun_of (aqs := [.v (.agg ⟨[.bool t.Src.V6, .int .u64 t.Src.Hi, .int .u64 t.Src.Lo]⟩)]) (ra_cons rfl ra_nil) (r121_eq hy) rfl rfl rfl rfl) ?_
  conv => whnf
  replace h := oreq.elim h; have hb := h.1; replace h := h.2
  first | (refine req.intro hb ?_; conv => whnf) | skip
  obtain ⟨p2, hy, h2⟩ := obind.elim h; clear h; have h := h2; clear h2
  refine sumK.introF [] (sumRun_of (aqs := [.v (.agg ⟨[.bool t.Dst.V6, .int .u64 t.Dst.Hi, .int .u64 t.Dst.Lo]⟩)]) (ra_cons rfl ra_nil) (r121_eq hy) rfl rfl rfl rfl) ?_
  conv => whnf
  replace h := oreq.elim h; have hb := h.1; replace h := h.2
  first | (refine req.intro hb ?_; conv => whnf) | skip
  let t2 : Int := iorI .u64 (wI .u64 ((wI .u64 t.SPort) * 2 ^ 16)) (wI .u64 t.DPort)
  obtain ⟨p3, hy, h2⟩ := obind.elim h; clear h; have h := h2; clear h2
  refine sumK.introF [] (sumRun_of (aqs := [.v (.int .u64 t2), .v (.int .i64 4)]) (ra_cons rfl (ra_cons rfl ra_nil)) (r63_eq hy) rfl rfl rfl rfl) ?_
  conv => whnf
  replace h := oreq.elim h; have hb := h.1; replace h := h.2
  first | (refine req.intro hb ?_; conv => whnf) | skip
  all_goals (cases h)
  all_goals exact rfl
theorem ok96 (addr_Put : api_Addr → Option (List UInt8)) (octet_Put : Int → Int → Option (List UInt8)) (tuple_Right : api_Tuple → Option Bool) (tuple_kind : Bool → Option Int) (hS : SumsOK Try.prog (aget (sums96 addr_Put octet_Put tuple_Right tuple_kind))) : SumOK Try.prog 96 (s96 (tuple_PutF addr_Put octet_Put tuple_Right tuple_kind)) := by
  refine SumOK.of_leads tab_ok (fun ar r ha hr => ?_) ⟨Try.f96, rfl, by decide, rfl⟩
  simp only [s96] at ha hr
  unfold r96 at hr
  split at hr <;> try (cases hr; done)
  split at hr <;> cases hr
  rename_i x h
  refine ⟨_, rfl, (leads96 addr_Put octet_Put tuple_Right tuple_kind hS _ x h).mono fun v H t hp => ?_⟩
  cases hp
  exact Res.val rfl trivial
def tuple_Put : api_Tuple → Option (List UInt8) := tuple_PutF addr_Put octet_Put tuple_Right tuple_kind
theorem lift96 : SumOK Try.prog 96 (s96 tuple_Put) := ok96 addr_Put octet_Put tuple_Right tuple_kind (SumsOK.of_tab ⟨lift121, lift63, lift119, lift120, trivial⟩)
end Go.Vm.Code

namespace Go.Vm.Code
open Go Go.Vm Go.Proofs
set_option maxRecDepth 100000
set_option maxHeartbeats 4000000
set_option linter.unusedVariables false

/-! cloakroom/cloakroomref13.in -/
def R13_inF (n : Int) (most : Int) : Option Bool :=
  cond (decide (n ≥ 0))
    (
    some (decide (n ≤ most)))
    (
    some (false))
def post144 (x : Bool) (v : Value) (H : Hp) : Prop := v = .bool x
def r144 (g : Int → Int → Option Bool) : List SArg → Option SRes
  | [.v (.int .i64 a0_1), .v (.int .i64 a1_1)] => match g a0_1 a1_1 with | some x => some ⟨.bool x, [], []⟩ | none => none
  | _ => none
def s144 (g : Int → Int → Option Bool) : Summ := ⟨[.v, .v], r144 g⟩
theorem r144_eq {g : Int → Int → Option Bool} {a0_1 : Int} {a1_1 : Int} {x : Bool} (hx : g a0_1 a1_1 = some x) : (s144 g).run [.v (.int .i64 a0_1), .v (.int .i64 a1_1)] = some ⟨.bool x, [], []⟩ := by
  show r144 g [.v (.int .i64 a0_1), .v (.int .i64 a1_1)] = _
  simp only [r144, hx]
abbrev sums144 : List (Nat × Summ) := []
theorem leads144 (hS : SumsOK Try.prog (aget (sums144))) (n : Int) (most : Int) (res : Bool) (h : R13_inF n most = some res) :
    Leads Try.prog 144 0 ⟨⟨144, 12, [(0, .int .i64 n), (1, .int .i64 most)], [.code k144_3], [], false, none⟩, [], [], 0⟩ (fun v H _ => post144 res v H) := by
  unfold R13_inF at h
  refine ev_ok tab_ok hS true 3000 ?_
  conv => whnf
  refine br.h h ?_ ?_ ?_
  · rfl
  · clear h; intro hb h; conv => whnf
    all_goals (cases h)
    all_goals exact rfl
  clear h; intro hb h; conv => whnf
  all_goals (cases h)
  all_goals exact rfl
theorem ok144 (hS : SumsOK Try.prog (aget (sums144))) : SumOK Try.prog 144 (s144 (R13_inF)) := by
  refine SumOK.of_leads tab_ok (fun ar r ha hr => ?_) ⟨Try.f144, rfl, by decide, rfl⟩
  simp only [s144] at ha hr
  unfold r144 at hr
  split at hr <;> try (cases hr; done)
  split at hr <;> cases hr
  rename_i x h
  refine ⟨_, rfl, (leads144 hS _ _ x h).mono fun v H t hp => ?_⟩
  cases hp
  exact Res.val rfl trivial
def R13_in : Int → Int → Option Bool := R13_inF
theorem lift144 : SumOK Try.prog 144 (s144 R13_in) := ok144 (SumsOK.of_tab trivial)
end Go.Vm.Code

namespace Go.Vm.Code
open Go Go.Vm Go.Proofs
set_option maxRecDepth 100000
set_option maxHeartbeats 4000000
set_option linter.unusedVariables false

/-! cloakroom/cloakroomref04.Right -/
def R04_RightF (a : api_Addr) : Option Bool :=
  cond (a.V6)
    (
    some (true))
    (
    cond (a.Hi == 0)
      (
      some (decide (a.Lo < 4294967296)))
      (
      some (false)))
def post145 (x : Bool) (v : Value) (H : Hp) : Prop := v = .bool x
def r145 (g : api_Addr → Option Bool) : List SArg → Option SRes
  | [.v (.agg ⟨[.bool a0_1, .int .u64 a0_2, .int .u64 a0_3]⟩)] => match g (api_Addr.mk a0_1 a0_2 a0_3) with | some x => some ⟨.bool x, [], []⟩ | none => none
  | _ => none
def s145 (g : api_Addr → Option Bool) : Summ := ⟨[.v], r145 g⟩
theorem r145_eq {g : api_Addr → Option Bool} {a0_1 : Bool} {a0_2 : Int} {a0_3 : Int} {x : Bool} (hx : g (api_Addr.mk a0_1 a0_2 a0_3) = some x) : (s145 g).run [.v (.agg ⟨[.bool a0_1, .int .u64 a0_2, .int .u64 a0_3]⟩)] = some ⟨.bool x, [], []⟩ := by
  show r145 g [.v (.agg ⟨[.bool a0_1, .int .u64 a0_2, .int .u64 a0_3]⟩)] = _
  simp only [r145, hx]
abbrev sums145 : List (Nat × Summ) := []
theorem leads145 (hS : SumsOK Try.prog (aget (sums145))) (a : api_Addr) (res : Bool) (h : R04_RightF a = some res) :
    Leads Try.prog 145 0 ⟨⟨145, 15, [(0, .agg ⟨[.bool a.V6, .int .u64 a.Hi, .int .u64 a.Lo]⟩)], [.code k145_3], [], false, none⟩, [], [], 0⟩ (fun v H _ => post145 res v H) := by
  unfold R04_RightF at h
  refine ev_ok tab_ok hS true 3000 ?_
  conv => whnf
  refine br.h h ?_ ?_ ?_
  · rfl
  · clear h; intro hb h; conv => whnf
    all_goals (cases h)
    all_goals exact rfl
  clear h; intro hb h; conv => whnf
  refine br.h h ?_ ?_ ?_
  · rfl
  · clear h; intro hb h; conv => whnf
    all_goals (cases h)
    all_goals exact rfl
  clear h; intro hb h; conv => whnf
  all_goals (cases h)
  all_goals exact rfl
theorem ok145 (hS : SumsOK Try.prog (aget (sums145))) : SumOK Try.prog 145 (s145 (R04_RightF)) := by
  refine SumOK.of_leads tab_ok (fun ar r ha hr => ?_) ⟨Try.f145, rfl, by decide, rfl⟩
  simp only [s145] at ha hr
  unfold r145 at hr
  split at hr <;> try (cases hr; done)
  split at hr <;> cases hr
  rename_i x h
  refine ⟨_, rfl, (leads145 hS _ x h).mono fun v H t hp => ?_⟩
  cases hp
  exact Res.val rfl trivial
def R04_Right : api_Addr → Option Bool := R04_RightF
theorem lift145 : SumOK Try.prog 145 (s145 R04_Right) := ok145 (SumsOK.of_tab trivial)
end Go.Vm.Code

namespace Go.Vm.Code
open Go Go.Vm Go.Proofs
set_option maxRecDepth 100000
set_option maxHeartbeats 4000000
set_option linter.unusedVariables false

/-! cloakroom/cloakroomref13.Right -/
def R13_RightF (R04_Right : api_Addr → Option Bool) (R13_in : Int → Int → Option Bool) (t : api_Tuple) : Option Bool :=
  (R13_in t.Proto 255).bind fun i =>
  cond (i)
    (
    (R04_Right t.Src).bind fun xr =>
    cond (xr)
      (
      (R04_Right t.Dst).bind fun xr1 =>
      cond (xr1)
        (
        cond (t.Src.V6 == t.Dst.V6)
          (
          (R13_in t.SPort 65535).bind fun i1 =>
          cond (i1)
            (
            (R13_in t.DPort 65535).bind fun i2 =>
            some (i2))
            (
            some (false)))
          (
          some (false)))
        (
        some (false)))
      (
      some (false)))
    (
    some (false))
def post126 (x : Bool) (v : Value) (H : Hp) : Prop := v = .bool x
def r126 (g : api_Tuple → Option Bool) : List SArg → Option SRes
  | [.v (.agg ⟨[.int .i64 a0_1, .bool a0_2, .int .u64 a0_3, .int .u64 a0_4, .bool a0_5, .int .u64 a0_6, .int .u64 a0_7, .int .i64 a0_8, .int .i64 a0_9]⟩)] => match g (api_Tuple.mk a0_1 (api_Addr.mk a0_2 a0_3 a0_4) (api_Addr.mk a0_5 a0_6 a0_7) a0_8 a0_9) with | some x => some ⟨.bool x, [], []⟩ | none => none
  | _ => none
def s126 (g : api_Tuple → Option Bool) : Summ := ⟨[.v], r126 g⟩
theorem r126_eq {g : api_Tuple → Option Bool} {a0_1 : Int} {a0_2 : Bool} {a0_3 : Int} {a0_4 : Int} {a0_5 : Bool} {a0_6 : Int} {a0_7 : Int} {a0_8 : Int} {a0_9 : Int} {x : Bool} (hx : g (api_Tuple.mk a0_1 (api_Addr.mk a0_2 a0_3 a0_4) (api_Addr.mk a0_5 a0_6 a0_7) a0_8 a0_9) = some x) : (s126 g).run [.v (.agg ⟨[.int .i64 a0_1, .bool a0_2, .int .u64 a0_3, .int .u64 a0_4, .bool a0_5, .int .u64 a0_6, .int .u64 a0_7, .int .i64 a0_8, .int .i64 a0_9]⟩)] = some ⟨.bool x, [], []⟩ := by
  show r126 g [.v (.agg ⟨[.int .i64 a0_1, .bool a0_2, .int .u64 a0_3, .int .u64 a0_4, .bool a0_5, .int .u64 a0_6, .int .u64 a0_7, .int .i64 a0_8, .int .i64 a0_9]⟩)] = _
  simp only [r126, hx]
abbrev sums126 (R04_Right : api_Addr → Option Bool) (R13_in : Int → Int → Option Bool) : List (Nat × Summ) := [(145, s145 R04_Right), (144, s144 R13_in)]
theorem leads126 (R04_Right : api_Addr → Option Bool) (R13_in : Int → Int → Option Bool) (hS : SumsOK Try.prog (aget (sums126 R04_Right R13_in))) (t : api_Tuple) (res : Bool) (h : R13_RightF R04_Right R13_in t = some res) :
    Leads Try.prog 126 0 ⟨⟨126, 35, [(0, .agg ⟨[.int .i64 t.Proto, .bool t.Src.V6, .int .u64 t.Src.Hi, .int .u64 t.Src.Lo, .bool t.Dst.V6, .int .u64 t.Dst.Hi, .int .u64 t.Dst.Lo, .int .i64 t.SPort, .int .i64 t.DPort]⟩)], [.code k126_3], [], false, none⟩, [], [], 0⟩ (fun v H _ => post126 res v H) := by
  unfold R13_RightF at h
  refine ev_ok tab_ok hS true 3000 ?_
  conv => whnf
  obtain ⟨i, hy, h2⟩ := obind.elim h; clear h; have h := h2; clear h2
  refine sumK.introF [] (sumRun_of (aqs := [.v (.int .i64 t.Proto), .v (.int .i64 255)]) (ra_cons rfl (ra_cons rfl ra_nil)) (r144_eq hy) rfl rfl rfl rfl) ?_
  conv => whnf
  refine br.h2 h ?_ ?_ ?_
  · rfl
  · clear h; intro hb h; conv => whnf
    all_goals (cases h)
    all_goals exact rfl
  clear h; intro hb h; conv => whnf
  obtain ⟨xr, hy, h2⟩ := obind.elim h; clear h; have h := h2; clear h2
  refine sumK.introF [] (sumRun_of (aqs := [.v (.agg ⟨[.bool t.Src.V6, .int .u64 t.Src.Hi, .int .u64 t.Src.Lo]⟩)]) (ra_cons rfl ra_nil) (r145_eq hy) rfl rfl rfl rfl) ?_
  conv => whnf
  refine br.h2 h ?_ ?_ ?_
  · rfl
  · clear h; intro hb h; conv => whnf
    all_goals (cases h)
    all_goals exact rfl
  clear h; intro hb h; conv => whnf
  obtain ⟨xr1, hy, h2⟩ := obind.elim h; clear h; have h := h2; clear h2
  refine sumK.introF [] (sumRun_of (aqs := [.v (.agg ⟨[.bool t.Dst.V6, .int .u64 t.Dst.Hi, .int .u64 t.Dst.Lo]⟩)]) (ra_cons rfl ra_nil) (r145_eq hy) rfl rfl rfl rfl) ?_
  conv => whnf
  refine br.h2 h ?_ ?_ ?_
  · rfl
  · clear h; intro hb h; conv => whnf
    all_goals (cases h)
    all_goals exact rfl
  clear h; intro hb h; conv => whnf
  refine br.h2 h ?_ ?_ ?_
  · rfl
  · clear h; intro hb h; conv => whnf
    all_goals (cases h)
    all_goals exact rfl
  clear h; intro hb h; conv => whnf
  obtain ⟨i1, hy, h2⟩ := obind.elim h; clear h; have h := h2; clear h2
  refine sumK.introF [] (sumRun_of (aqs := [.v (.int .i64 t.SPort), .v (.int .i64 65535)]) (ra_cons rfl (ra_cons rfl ra_nil)) (r144_eq hy) rfl rfl rfl rfl) ?_
  conv => whnf
  refine br.h2 h ?_ ?_ ?_
  · rfl
  · clear h; intro hb h; conv => whnf
    all_goals (cases h)
    all_goals exact rfl
  clear h; intro hb h; conv => whnf
  obtain ⟨i2, hy, h2⟩ := obind.elim h; clear h; have h := h2; clear h2
  refine sumK.introF [] (sumRun_of (aqs := [.v (.int .i64 t.DPort), .v (.int .i64 65535)]) (ra_cons rfl (ra_cons rfl ra_nil)) (r144_eq hy) rfl rfl rfl rfl) ?_
  conv => whnf
  all_goals (cases h)
  all_goals exact rfl
theorem ok126 (R04_Right : api_Addr → Option Bool) (R13_in : Int → Int → Option Bool) (hS : SumsOK Try.prog (aget (sums126 R04_Right R13_in))) : SumOK Try.prog 126 (s126 (R13_RightF R04_Right R13_in)) := by
  refine SumOK.of_leads tab_ok (fun ar r ha hr => ?_) ⟨Try.f126, rfl, by decide, rfl⟩
  simp only [s126] at ha hr
  unfold r126 at hr
  split at hr <;> try (cases hr; done)
  split at hr <;> cases hr
  rename_i x h
  refine ⟨_, rfl, (leads126 R04_Right R13_in hS _ x h).mono fun v H t hp => ?_⟩
  cases hp
  exact Res.val rfl trivial
def R13_Right : api_Tuple → Option Bool := R13_RightF R04_Right R13_in
theorem lift126 : SumOK Try.prog 126 (s126 R13_Right) := ok126 R04_Right R13_in (SumsOK.of_tab ⟨lift145, lift144, trivial⟩)
end Go.Vm.Code

namespace Go.Vm.Code
open Go Go.Vm Go.Proofs
set_option maxRecDepth 100000
set_option maxHeartbeats 4000000
set_option linter.unusedVariables false

/-! cloakroom/cloakroomref04.Put -/
def R04_PutF (R02_Put : Int → Int → Option (List UInt8)) (R04_Right : api_Addr → Option Bool) (a : api_Addr) : Option (List UInt8) :=
  (R04_Right a).bind fun xr =>
  cond (!xr)
    (
    some ([]))
    (
    cond (a.V6)
      (
      (R02_Put a.Hi 8).bind fun p =>
      (R02_Put a.Lo 8).bind fun p1 =>
      oreq (decide (p.length + p1.length < 2 ^ 63)) <|
      some (p ++ p1))
      (
      (R02_Put a.Lo 4).bind fun p2 =>
      some (p2)))
def post127 (x : List UInt8) (v : Value) (H : Hp) : Prop := v = .string ⟨⟨x⟩⟩
def r127 (g : api_Addr → Option (List UInt8)) : List SArg → Option SRes
  | [.v (.agg ⟨[.bool a0_1, .int .u64 a0_2, .int .u64 a0_3]⟩)] => match g (api_Addr.mk a0_1 a0_2 a0_3) with | some x => some ⟨.string ⟨⟨x⟩⟩, [], []⟩ | none => none
  | _ => none
def s127 (g : api_Addr → Option (List UInt8)) : Summ := ⟨[.v], r127 g⟩
theorem r127_eq {g : api_Addr → Option (List UInt8)} {a0_1 : Bool} {a0_2 : Int} {a0_3 : Int} {x : List UInt8} (hx : g (api_Addr.mk a0_1 a0_2 a0_3) = some x) : (s127 g).run [.v (.agg ⟨[.bool a0_1, .int .u64 a0_2, .int .u64 a0_3]⟩)] = some ⟨.string ⟨⟨x⟩⟩, [], []⟩ := by
  show r127 g [.v (.agg ⟨[.bool a0_1, .int .u64 a0_2, .int .u64 a0_3]⟩)] = _
  simp only [r127, hx]
abbrev sums127 (R02_Put : Int → Int → Option (List UInt8)) (R04_Right : api_Addr → Option Bool) : List (Nat × Summ) := [(64, s64 R02_Put), (145, s145 R04_Right)]
theorem leads127 (R02_Put : Int → Int → Option (List UInt8)) (R04_Right : api_Addr → Option Bool) (hS : SumsOK Try.prog (aget (sums127 R02_Put R04_Right))) (a : api_Addr) (res : List UInt8) (h : R04_PutF R02_Put R04_Right a = some res) :
    Leads Try.prog 127 0 ⟨⟨127, 18, [(0, .agg ⟨[.bool a.V6, .int .u64 a.Hi, .int .u64 a.Lo]⟩)], [.code k127_15], [], false, none⟩, [], [], 0⟩ (fun v H _ => post127 res v H) := by
  unfold R04_PutF at h
  refine ev_ok tab_ok hS true 3000 ?_
  conv => whnf
  obtain ⟨xr, hy, h2⟩ := obind.elim h; clear h; have h := h2; clear h2
  refine sumK.introF [] (sumRun_of (aqs := [.v (.agg ⟨[.bool a.V6, .int .u64 a.Hi, .int .u64 a.Lo]⟩)]) (ra_cons rfl ra_nil) (r145_eq hy) rfl rfl rfl rfl) ?_
  conv => whnf
  refine br.h h ?_ ?_ ?_
  · rfl
  · clear h; intro hb h; conv => whnf
    all_goals (cases h)
    all_goals exact rfl
  clear h; intro hb h; conv => whnf
  refine br.h2 h ?_ ?_ ?_
  · rfl
  · clear h; intro hb h; conv => whnf
    obtain ⟨p2, hy, h2⟩ := obind.elim h; clear h; have h := h2; clear h2
    refine sumK.introF [] (sumRun_of (aqs := [.v (.int .u64 a.Lo), .v (.int .i64 4)]) (ra_cons rfl (ra_cons rfl ra_nil)) (r64_eq hy) rfl rfl rfl rfl) ?_
    conv => whnf
    all_goals (cases h)
    all_goals exact rfl
  clear h; intro hb h; conv => whnf
  obtain ⟨p, hy, h2⟩ := obind.elim h; clear h; have h := h2; clear h2
  refine sumK.introF [] (sumRun_of (aqs := [.v (.int .u64 a.Hi), .v (.int .i64 8)]) (ra_cons rfl (ra_cons rfl ra_nil)) (r64_eq hy) rfl rfl rfl rfl) ?_
  conv => whnf
  obtain ⟨p1, hy, h2⟩ := obind.elim h; clear h; have h := h2; clear h2
  refine sumK.introF [] (sumRun_of (aqs := [.v (.int .u64 a.Lo), .v (.int .i64 8)]) (ra_cons rfl (ra_cons rfl ra_nil)) (r64_eq hy) rfl rfl rfl rfl) ?_
  conv => whnf
  replace h := oreq.elim h; have hb := h.1; replace h := h.2
  first | (refine req.intro hb ?_; conv => whnf) | skip
  all_goals (cases h)
  all_goals exact rfl
theorem ok127 (R02_Put : Int → Int → Option (List UInt8)) (R04_Right : api_Addr → Option Bool) (hS : SumsOK Try.prog (aget (sums127 R02_Put R04_Right))) : SumOK Try.prog 127 (s127 (R04_PutF R02_Put R04_Right)) := by
  refine SumOK.of_leads tab_ok (fun ar r ha hr => ?_) ⟨Try.f127, rfl, by decide, rfl⟩
  simp only [s127] at ha hr
  unfold r127 at hr
  split at hr <;> try (cases hr; done)
  split at hr <;> cases hr
  rename_i x h
  refine ⟨_, rfl, (leads127 R02_Put R04_Right hS _ x h).mono fun v H t hp => ?_⟩
  cases hp
  exact Res.val rfl trivial
def R04_Put : api_Addr → Option (List UInt8) := R04_PutF R02_Put R04_Right
theorem lift127 : SumOK Try.prog 127 (s127 R04_Put) := ok127 R02_Put R04_Right (SumsOK.of_tab ⟨lift64, lift145, trivial⟩)
end Go.Vm.Code

namespace Go.Vm.Code
open Go Go.Vm Go.Proofs
set_option maxRecDepth 100000
set_option maxHeartbeats 4000000
set_option linter.unusedVariables false

/-! cloakroom/cloakroomref13.Put -/
def R13_PutF (R02_Put : Int → Int → Option (List UInt8)) (R04_Put : api_Addr → Option (List UInt8)) (R13_Right : api_Tuple → Option Bool) (t : api_Tuple) : Option (List UInt8) :=
  (R13_Right t).bind fun xr =>
  cond (!xr)
    (
    some ([]))
    (
    cond (t.Src.V6)
      (
      (R02_Put 6 1).bind fun p =>
      (R02_Put (wI .u64 t.Proto) 1).bind fun p1 =>
      oreq (decide (p.length + p1.length < 2 ^ 63)) <|
      (R04_Put t.Src).bind fun p2 =>
      oreq (decide ((p ++ p1).length + p2.length < 2 ^ 63)) <|
      (R04_Put t.Dst).bind fun p3 =>
      oreq (decide (((p ++ p1) ++ p2).length + p3.length < 2 ^ 63)) <|
      (R02_Put (wI .u64 t.SPort) 2).bind fun p4 =>
      oreq (decide ((((p ++ p1) ++ p2) ++ p3).length + p4.length < 2 ^ 63)) <|
      (R02_Put (wI .u64 t.DPort) 2).bind fun p5 =>
      oreq (decide (((((p ++ p1) ++ p2) ++ p3) ++ p4).length + p5.length < 2 ^ 63)) <|
      some (((((p ++ p1) ++ p2) ++ p3) ++ p4) ++ p5))
      (
      (R02_Put 4 1).bind fun p6 =>
      (R02_Put (wI .u64 t.Proto) 1).bind fun p7 =>
      oreq (decide (p6.length + p7.length < 2 ^ 63)) <|
      (R04_Put t.Src).bind fun p8 =>
      oreq (decide ((p6 ++ p7).length + p8.length < 2 ^ 63)) <|
      (R04_Put t.Dst).bind fun p9 =>
      oreq (decide (((p6 ++ p7) ++ p8).length + p9.length < 2 ^ 63)) <|
      (R02_Put (wI .u64 t.SPort) 2).bind fun p10 =>
      oreq (decide ((((p6 ++ p7) ++ p8) ++ p9).length + p10.length < 2 ^ 63)) <|
      (R02_Put (wI .u64 t.DPort) 2).bind fun p11 =>
      oreq (decide (((((p6 ++ p7) ++ p8) ++ p9) ++ p10).length + p11.length < 2 ^ 63)) <|
      let t1 := ((((p6 ++ p7) ++ p8) ++ p9) ++ p10) ++ p11
      some (t1)))
def post99 (x : List UInt8) (v : Value) (H : Hp) : Prop := v = .string ⟨⟨x⟩⟩
def r99 (g : api_Tuple → Option (List UInt8)) : List SArg → Option SRes
  | [.v (.agg ⟨[.int .i64 a0_1, .bool a0_2, .int .u64 a0_3, .int .u64 a0_4, .bool a0_5, .int .u64 a0_6, .int .u64 a0_7, .int .i64 a0_8, .int .i64 a0_9]⟩)] => match g (api_Tuple.mk a0_1 (api_Addr.mk a0_2 a0_3 a0_4) (api_Addr.mk a0_5 a0_6 a0_7) a0_8 a0_9) with | some x => some ⟨.string ⟨⟨x⟩⟩, [], []⟩ | none => none
  | _ => none
def s99 (g : api_Tuple → Option (List UInt8)) : Summ := ⟨[.v], r99 g⟩
theorem r99_eq {g : api_Tuple → Option (List UInt8)} {a0_1 : Int} {a0_2 : Bool} {a0_3 : Int} {a0_4 : Int} {a0_5 : Bool} {a0_6 : Int} {a0_7 : Int} {a0_8 : Int} {a0_9 : Int} {x : List UInt8} (hx : g (api_Tuple.mk a0_1 (api_Addr.mk a0_2 a0_3 a0_4) (api_Addr.mk a0_5 a0_6 a0_7) a0_8 a0_9) = some x) : (s99 g).run [.v (.agg ⟨[.int .i64 a0_1, .bool a0_2, .int .u64 a0_3, .int .u64 a0_4, .bool a0_5, .int .u64 a0_6, .int .u64 a0_7, .int .i64 a0_8, .int .i64 a0_9]⟩)] = some ⟨.string ⟨⟨x⟩⟩, [], []⟩ := by
  show r99 g [.v (.agg ⟨[.int .i64 a0_1, .bool a0_2, .int .u64 a0_3, .int .u64 a0_4, .bool a0_5, .int .u64 a0_6, .int .u64 a0_7, .int .i64 a0_8, .int .i64 a0_9]⟩)] = _
  simp only [r99, hx]
abbrev sums99 (R02_Put : Int → Int → Option (List UInt8)) (R04_Put : api_Addr → Option (List UInt8)) (R13_Right : api_Tuple → Option Bool) : List (Nat × Summ) := [(64, s64 R02_Put), (127, s127 R04_Put), (126, s126 R13_Right)]
theorem leads99 (R02_Put : Int → Int → Option (List UInt8)) (R04_Put : api_Addr → Option (List UInt8)) (R13_Right : api_Tuple → Option Bool) (hS : SumsOK Try.prog (aget (sums99 R02_Put R04_Put R13_Right))) (t : api_Tuple) (res : List UInt8) (h : R13_PutF R02_Put R04_Put R13_Right t = some res) :
    Leads Try.prog 99 0 ⟨⟨99, 35, [(0, .agg ⟨[.int .i64 t.Proto, .bool t.Src.V6, .int .u64 t.Src.Hi, .int .u64 t.Src.Lo, .bool t.Dst.V6, .int .u64 t.Dst.Hi, .int .u64 t.Dst.Lo, .int .i64 t.SPort, .int .i64 t.DPort]⟩)], [.code k99_16], [], false, none⟩, [], [], 0⟩ (fun v H _ => post99 res v H) := by
  unfold R13_PutF at h
  refine ev_ok tab_ok hS true 3000 ?_
  conv => whnf
  obtain ⟨xr, hy, h2⟩ := obind.elim h; clear h; have h := h2; clear h2
  refine sumK.introF [] (sumRun_of (aqs := [.v (.agg ⟨[.int .i64 t.Proto, .bool t.Src.V6, .int .u64 t.Src.Hi, .int .u64 t.Src.Lo, .bool t.Dst.V6, .int .u64 t.Dst.Hi, .int .u64 t.Dst.Lo, .int .i64 t.SPort, .int .i64 t.DPort]⟩)]) (ra_cons rfl ra_nil) (r126_eq hy) rfl rfl rfl rfl) ?_
  conv => whnf
  refine br.h h ?_ ?_ ?_
  · rfl
  · clear h; intro hb h; conv => whnf
    all_goals (cases h)
    all_goals exact rfl
  clear h; intro hb h; conv => whnf
  refine br.h h ?_ ?_ ?_
  · rfl
  · clear h; intro hb h; conv => whnf
    obtain ⟨p, hy, h2⟩ := obind.elim h; clear h; have h := h2; clear h2
    refine sumK.introF [] (sumRun_of (aqs := [.v (.int .u64 6), .v (.int .i64 1)]) (ra_cons rfl (ra_cons rfl ra_nil)) (r64_eq hy) rfl rfl rfl rfl) ?_
    conv => whnf
    obtain ⟨p1, hy, h2⟩ := obind.elim h; clear h; have h := h2; clear h2
    refine sumK.introF [] (sumRun_of (aqs := [.v (.int .u64 (wI .u64 t.Proto)), .v (.int .i64 1)]) (ra_cons rfl (ra_cons rfl ra_nil)) (r64_eq hy) rfl rfl rfl rfl) ?_
    conv => whnf
    replace h := oreq.elim h; have hb := h.1; replace h := h.2
    first | (refine req.intro hb ?_; conv => whnf) | skip
    obtain ⟨p2, hy, h2⟩ := obind.elim h; clear h; have h := h2; clear h2
    refine sumK.introF [] (sumRun_of (aqs := [.v (.agg ⟨[.bool t.Src.V6, .int .u64 t.Src.Hi, .int .u64 t.Src.Lo]⟩)]) (ra_cons rfl ra_nil) (r127_eq hy) rfl rfl rfl rfl) ?_
    conv => whnf
    replace h := oreq.elim h; have hb := h.1; replace h := h.2
    first | (refine req.intro hb ?_; conv => whnf) | skip
    obtain ⟨p3, hy, h2⟩ := obind.elim h; clear h; have h := h2; clear h2
    refine sumK.introF [] (sumRun_of (aqs := [.v (.agg ⟨[.bool t.Dst.V6, .int .u64 t.Dst.Hi, .int .u64 t.Dst.Lo]⟩)]) (ra_cons rfl ra_nil) (r127_eq hy) rfl rfl rfl rfl) ?_
    conv => whnf
    replace h := oreq.elim h; have hb := h.1; replace h := h.2
    first | (refine req.intro hb ?_; conv => whnf) | skip
    obtain ⟨p4, hy, h2⟩ := obind.elim h; clear h; have h := h2; clear h2
    refine sumK.introF [] (sumRun_of (aqs := [.v (.int .u64 (wI .u64 t.SPort)), .v (.int .i64 2)]) (ra_cons rfl (ra_cons rfl ra_nil)) (r64_eq hy) rfl rfl rfl rfl) ?_
    conv => whnf
    replace h := oreq.elim h; have hb := h.1; replace h := h.2
    first | (refine req.intro hb ?_; conv => whnf) | skip
    obtain ⟨p5, hy, h2⟩ := obind.elim h; clear h; have h := h2; clear h2
    refine sumK.introF [] (sumRun_of (aqs := [.v (.int .u64 (wI .u64 t.DPort)), .v (.int .i64 2)]) (ra_cons rfl (ra_cons rfl ra_nil)) (r64_eq hy) rfl rfl rfl rfl) ?_
    conv => whnf
    replace h := oreq.elim h; have hb := h.1; replace h := h.2
    first | (refine req.intro hb ?_; conv => whnf) | skip
    all_goals (cases h)
    all_goals exact rfl
  clear h; intro hb h; conv => whnf
  obtain ⟨p6, hy, h2⟩ := obind.elim h; clear h; have h := h2; clear h2
  refine sumK.introF [] (sumRun_of (aqs := [.v (.int .u64 4), .v (.int .i64 1)]) (ra_cons rfl (ra_cons rfl ra_nil)) (r64_eq hy) rfl rfl rfl rfl) ?_
  conv => whnf
  obtain ⟨p7, hy, h2⟩ := obind.elim h; clear h; have h := h2; clear h2
  refine sumK.introF [] (sumRun_of (aqs := [.v (.int .u64 (wI .u64 t.Proto)), .v (.int .i64 1)]) (ra_cons rfl (ra_cons rfl ra_nil)) (r64_eq hy) rfl rfl rfl rfl) ?_
  conv => whnf
  replace h := oreq.elim h; have hb := h.1; replace h := h.2
  first | (refine req.intro hb ?_; conv => whnf) | skip
  obtain ⟨p8, hy, h2⟩ := obind.elim h; clear h; have h := h2; clear h2
  refine sumK.introF [] (sumRun_of (aqs := [.v (.agg ⟨[.bool t.Src.V6, .int .u64 t.Src.Hi, .int .u64 t.Src.Lo]⟩)]) (ra_cons rfl ra_nil) (r127_eq hy) rfl rfl rfl rfl) ?_
  conv => whnf
  replace h := oreq.elim h; have hb := h.1; replace h := h.2
  first | (refine req.intro hb ?_; conv => whnf) | skip
  obtain ⟨p9, hy, h2⟩ := obind.elim h; clear h; have h := h2; clear h2
  refine sumK.introF [] (sumRun_of (aqs := [.v (.agg ⟨[.bool t.Dst.V6, .int .u64 t.Dst.Hi, .int .u64 t.Dst.Lo]⟩)]) (ra_cons rfl ra_nil) (r127_eq hy) rfl rfl rfl rfl) ?_
  conv => whnf
  replace h := oreq.elim h; have hb := h.1; replace h := h.2
  first | (refine req.intro hb ?_; conv => whnf) | skip
  obtain ⟨p10, hy, h2⟩ := obind.elim h; clear h; have h := h2; clear h2
  refine sumK.introF [] (sumRun_of (aqs := [.v (.int .u64 (wI .u64 t.SPort)), .v (.int .i64 2)]) (ra_cons rfl (ra_cons rfl ra_nil)) (r64_eq hy) rfl rfl rfl rfl) ?_
  conv => whnf
  replace h := oreq.elim h; have hb := h.1; replace h := h.2
  first | (refine req.intro hb ?_; conv => whnf) | skip
  obtain ⟨p11, hy, h2⟩ := obind.elim h; clear h; have h := h2; clear h2
  refine sumK.introF [] (sumRun_of (aqs := [.v (.int .u64 (wI .u64 t.DPort)), .v (.int .i64 2)]) (ra_cons rfl (ra_cons rfl ra_nil)) (r64_eq hy) rfl rfl rfl rfl) ?_
  conv => whnf
  replace h := oreq.elim h; have hb := h.1; replace h := h.2
  first | (refine req.intro hb ?_; conv => whnf) | skip
  let t1 : List UInt8 := ((((p6 ++ p7) ++ p8) ++ p9) ++ p10) ++ p11
  all_goals (cases h)
  all_goals exact rfl
theorem ok99 (R02_Put : Int → Int → Option (List UInt8)) (R04_Put : api_Addr → Option (List UInt8)) (R13_Right : api_Tuple → Option Bool) (hS : SumsOK Try.prog (aget (sums99 R02_Put R04_Put R13_Right))) : SumOK Try.prog 99 (s99 (R13_PutF R02_Put R04_Put R13_Right)) := by
  refine SumOK.of_leads tab_ok (fun ar r ha hr => ?_) ⟨Try.f99, rfl, by decide, rfl⟩
  simp only [s99] at ha hr
  unfold r99 at hr
  split at hr <;> try (cases hr; done)
  split at hr <;> cases hr
  rename_i x h
  refine ⟨_, rfl, (leads99 R02_Put R04_Put R13_Right hS _ x h).mono fun v H t hp => ?_⟩
  cases hp
  exact Res.val rfl trivial
def R13_Put : api_Tuple → Option (List UInt8) := R13_PutF R02_Put R04_Put R13_Right
theorem lift99 : SumOK Try.prog 99 (s99 R13_Put) := ok99 R02_Put R04_Put R13_Right (SumsOK.of_tab ⟨lift64, lift127, lift126, trivial⟩)
end Go.Vm.Code

namespace Go.Vm.Code
open Go Go.Vm Go.Proofs
set_option maxRecDepth 100000
set_option maxHeartbeats 4000000
set_option linter.unusedVariables false

/-! cloakroom/num.Mask -/
def num_MaskF (k : Int) : Option Int :=
  cond (decide (k < 0))
    (
    some (0))
    (
    cond (decide (k > 64))
      (
      some (0))
      (
      oreq (decide (0 ≤ k)) <|
      let t := wI .u64 (18446744073709551615 * 2 ^ (min k.toNat 64))
      some (cmplI .u64 t)))
def post90 (x : Int) (v : Value) (H : Hp) : Prop := v = .int .u64 x
def r90 (g : Int → Option Int) : List SArg → Option SRes
  | [.v (.int .i64 a0_1)] => match g a0_1 with | some x => some ⟨.int .u64 x, [], []⟩ | none => none
  | _ => none
def s90 (g : Int → Option Int) : Summ := ⟨[.v], r90 g⟩
theorem r90_eq {g : Int → Option Int} {a0_1 : Int} {x : Int} (hx : g a0_1 = some x) : (s90 g).run [.v (.int .i64 a0_1)] = some ⟨.int .u64 x, [], []⟩ := by
  show r90 g [.v (.int .i64 a0_1)] = _
  simp only [r90, hx]
abbrev sums90 : List (Nat × Summ) := []
theorem leads90 (hS : SumsOK Try.prog (aget (sums90))) (k : Int) (res : Int) (h : num_MaskF k = some res) :
    Leads Try.prog 90 0 ⟨⟨90, 12, [(0, .int .i64 k)], [.code k90_9], [], false, none⟩, [], [], 0⟩ (fun v H _ => post90 res v H) := by
  unfold num_MaskF at h
  refine ev_ok tab_ok hS true 3000 ?_
  conv => whnf
  refine br.h h ?_ ?_ ?_
  · rfl
  · clear h; intro hb h; conv => whnf
    all_goals (cases h)
    all_goals exact rfl
  clear h; intro hb h; conv => whnf
  refine br.h h ?_ ?_ ?_
  · rfl
  · clear h; intro hb h; conv => whnf
    all_goals (cases h)
    all_goals exact rfl
  clear h; intro hb h; conv => whnf
  replace h := oreq.elim h; have hb := h.1; replace h := h.2
  first | (refine req.intro hb ?_; conv => whnf) | skip
  let t : Int := wI .u64 (18446744073709551615 * 2 ^ (min k.toNat 64))
  all_goals (cases h)
  all_goals exact rfl
theorem ok90 (hS : SumsOK Try.prog (aget (sums90))) : SumOK Try.prog 90 (s90 (num_MaskF)) := by
  refine SumOK.of_leads tab_ok (fun ar r ha hr => ?_) ⟨Try.f90, rfl, by decide, rfl⟩
  simp only [s90] at ha hr
  unfold r90 at hr
  split at hr <;> try (cases hr; done)
  split at hr <;> cases hr
  rename_i x h
  refine ⟨_, rfl, (leads90 hS _ x h).mono fun v H t hp => ?_⟩
  cases hp
  exact Res.val rfl trivial
def num_Mask : Int → Option Int := num_MaskF
theorem lift90 : SumOK Try.prog 90 (s90 num_Mask) := ok90 (SumsOK.of_tab trivial)
end Go.Vm.Code

namespace Go.Vm.Code
open Go Go.Vm Go.Proofs
set_option maxRecDepth 100000
set_option maxHeartbeats 4000000
set_option linter.unusedVariables false

/-! cloakroom/cloakroomref01.Mask -/
def R01_Mask_s1 (k : Int) (n : Int) (i : Int) : Option (Sum (Int × Int) Int) :=
  cond (decide (i < k))
    (
    cond (decide (k ≤ 64))
      (
      some (.inl (iorI .u64 (wI .u64 (n * 2 ^ 1)) 1, wI .i64 (i + 1))))
      (
      some (.inr (n))))
    (
    some (.inr (n)))
def R01_MaskF (k : Int) : Option Int :=
  iter (fun st => R01_Mask_s1 k st.1 st.2) FUEL (0, 0)
def post91 (x : Int) (v : Value) (H : Hp) : Prop := v = .int .u64 x
def r91 (g : Int → Option Int) : List SArg → Option SRes
  | [.v (.int .i64 a0_1)] => match g a0_1 with | some x => some ⟨.int .u64 x, [], []⟩ | none => none
  | _ => none
def s91 (g : Int → Option Int) : Summ := ⟨[.v], r91 g⟩
theorem r91_eq {g : Int → Option Int} {a0_1 : Int} {x : Int} (hx : g a0_1 = some x) : (s91 g).run [.v (.int .i64 a0_1)] = some ⟨.int .u64 x, [], []⟩ := by
  show r91 g [.v (.int .i64 a0_1)] = _
  simp only [r91, hx]
abbrev sums91 : List (Nat × Summ) := []
def head91_1 (k : Int) (n : Int) (i : Int) : VM :=
  ⟨⟨91, 18, [(0, .int .i64 k), (3, .int .u64 n), (4, .int .i64 i)], [.code k91_10, .inLoop k91_10, .inBlock 0, .code k91_15], [], false, none⟩, [], [], 0⟩
theorem loop91_1 (hS : SumsOK Try.prog (aget (sums91))) (k : Int) (res : Int) : ∀ fuel (st : Int × Int) (o : Int), iter (fun st => R01_Mask_s1 k st.1 st.2) fuel st = some o → (o = res) →
    Leads Try.prog 91 0 (head91_1 k st.1 st.2) (fun v H _ => post91 res v H) := by
  intro fuel st o h hc
  refine iter_leads (head := fun st => head91_1 k st.1 st.2) (C := fun o => (o = res)) ?_ fuel st o h hc
  clear h hc o st fuel
  intro st o h hc
  obtain ⟨n, i⟩ := st
  replace h : R01_Mask_s1 k n i = some o := h
  show Leads Try.prog 91 0 (head91_1 k n i) (fun v H _ => post91 res v H)
  unfold R01_Mask_s1 at h
  refine ev_ok tab_ok hS true 3000 ?_
  conv => whnf
  refine br.h2 h ?_ ?_ ?_
  · rfl
  · clear h; intro hb h; conv => whnf
    all_goals (cases h; cases hc)
    all_goals exact rfl
  clear h; intro hb h; conv => whnf
  refine br.h h ?_ ?_ ?_
  · rfl
  · clear h; intro hb h; conv => whnf
    cases h; simp only [Sum.elim_inl, Sum.elim_inr, head91_1] at hc
    refine Leads.re hc [] rfl ?_ ?_ <;> (repeat' first | exact trivial | refine ⟨⟨_, rfl, rfl⟩, ?_⟩ | refine ⟨⟨_, _, rfl, rfl, .rowF (vI_flat _ _) id⟩, ?_⟩ | refine ⟨⟨_, _, rfl, rfl, .rowF (vS_flat _) id⟩, ?_⟩ | refine ⟨⟨_, _, rfl, rfl, .rowF (vB_flat _) id⟩, ?_⟩ | refine ⟨⟨_, _, rfl, rfl, .cells rfl⟩, ?_⟩ | refine ⟨⟨_, _, rfl, rfl, .row rfl id⟩, ?_⟩ | refine ⟨⟨_, _, rfl, rfl, .cr rfl⟩, ?_⟩ | refine ⟨⟨_, _, rfl, rfl, .rc rfl⟩, ?_⟩ | refine ⟨⟨_, _, rfl, rfl, .marks⟩, ?_⟩ | refine ⟨⟨_, _, rfl, rfl, .siter _ _⟩, ?_⟩ | refine ⟨⟨_, _, rfl, rfl, .loop rfl rfl rfl rfl (by repeat' first | exact trivial | refine ⟨rfl, ?_⟩) rfl rfl rfl rfl⟩, ?_⟩)
  clear h; intro hb h; conv => whnf
  all_goals (cases h; cases hc)
  all_goals exact rfl
theorem leads91 (hS : SumsOK Try.prog (aget (sums91))) (k : Int) (res : Int) (h : R01_MaskF k = some res) :
    Leads Try.prog 91 0 ⟨⟨91, 18, [(0, .int .i64 k)], [.code k91_18], [], false, none⟩, [], [], 0⟩ (fun v H _ => post91 res v H) := by
  unfold R01_MaskF at h
  refine ev_ok tab_ok hS true 3000 ?_
  conv => whnf
  have hl := loop91_1 hS _ res _ _ _ h rfl; simp only [head91_1] at hl
  refine Leads.re hl [] rfl ?_ ?_ <;> (repeat' first | exact trivial | refine ⟨⟨_, rfl, rfl⟩, ?_⟩ | refine ⟨⟨_, _, rfl, rfl, .rowF (vI_flat _ _) id⟩, ?_⟩ | refine ⟨⟨_, _, rfl, rfl, .rowF (vS_flat _) id⟩, ?_⟩ | refine ⟨⟨_, _, rfl, rfl, .rowF (vB_flat _) id⟩, ?_⟩ | refine ⟨⟨_, _, rfl, rfl, .cells rfl⟩, ?_⟩ | refine ⟨⟨_, _, rfl, rfl, .row rfl id⟩, ?_⟩ | refine ⟨⟨_, _, rfl, rfl, .cr rfl⟩, ?_⟩ | refine ⟨⟨_, _, rfl, rfl, .rc rfl⟩, ?_⟩ | refine ⟨⟨_, _, rfl, rfl, .marks⟩, ?_⟩ | refine ⟨⟨_, _, rfl, rfl, .siter _ _⟩, ?_⟩ | refine ⟨⟨_, _, rfl, rfl, .loop rfl rfl rfl rfl (by repeat' first | exact trivial | refine ⟨rfl, ?_⟩) rfl rfl rfl rfl⟩, ?_⟩)
theorem ok91 (hS : SumsOK Try.prog (aget (sums91))) : SumOK Try.prog 91 (s91 (R01_MaskF)) := by
  refine SumOK.of_leads tab_ok (fun ar r ha hr => ?_) ⟨Try.f91, rfl, by decide, rfl⟩
  simp only [s91] at ha hr
  unfold r91 at hr
  split at hr <;> try (cases hr; done)
  split at hr <;> cases hr
  rename_i x h
  refine ⟨_, rfl, (leads91 hS _ x h).mono fun v H t hp => ?_⟩
  cases hp
  exact Res.val rfl trivial
def R01_Mask : Int → Option Int := R01_MaskF
theorem lift91 : SumOK Try.prog 91 (s91 R01_Mask) := ok91 (SumsOK.of_tab trivial)
end Go.Vm.Code

/- Chapter 13's tuples as bytes, and masks: plain words. -/
namespace Go.Vm.Code
open Go Go.Vm

def adr (a : api_Addr) : Bool := a.V6 || (decide (a.Hi = 0) && decide (a.Lo < 4294967296))
def adB (a : api_Addr) : List UInt8 := cond a.V6 (be a.Hi.toNat 8 ++ be a.Lo.toNat 8) (be a.Lo.toNat 4)
theorem adB_len (a : api_Addr) : (adB a).length ≤ 16 := by unfold adB; cases a.V6 <;> simp
theorem aRight_eq (a : api_Addr) : addr_Right a = some (adr a) := by
  unfold addr_Right addr_RightF adr
  cases a.V6 with
  | true => rfl
  | false =>
    rw [cond_false, Bool.false_or]
    by_cases h : a.Hi = 0
    · rw [h]; rfl
    · rw [beq_eq_false_iff_ne.2 h, cond_false, decide_eq_false h]; rfl
theorem raRight_eq (a : api_Addr) : R04_Right a = some (adr a) := aRight_eq a
def inU (a : api_Addr) : Prop := (0 ≤ a.Hi ∧ a.Hi < 2 ^ 64) ∧ 0 ≤ a.Lo ∧ a.Lo < 2 ^ 64
theorem aPut_eq {a : api_Addr} (h : inU a) (hr : adr a = true) : addr_Put a = some (adB a) := by
  unfold addr_Put addr_PutF adB
  rw [aRight_eq, Option.bind_some, hr, Bool.not_true, cond_false]
  cases a.V6 with
  | true =>
    rw [cond_true, octet_Put_eq h.1.1, octet_Put_eq h.2.1]
    simp only [Option.bind_some, putS]
    rw [if_pos (by omega), if_pos (by omega), oreq_p (by simp)]; rfl
  | false =>
    rw [cond_false, octet_Put_eq h.2.1]
    simp only [Option.bind_some, putS]
    rw [if_pos (by omega)]; rfl
theorem raPut_eq {a : api_Addr} (h : inU a) (hr : adr a = true) : R04_Put a = some (adB a) := by
  unfold R04_Put R04_PutF adB
  rw [raRight_eq, Option.bind_some, hr, Bool.not_true, cond_false]
  cases a.V6 with
  | true =>
    rw [cond_true, R02_Put_eq h.1.1 h.1.2, R02_Put_eq h.2.1 h.2.2]
    simp only [Option.bind_some, putS]
    rw [if_pos (by omega), if_pos (by omega), oreq_p (by simp)]; rfl
  | false =>
    rw [cond_false, R02_Put_eq h.2.1 h.2.2]
    simp only [Option.bind_some, putS]
    rw [if_pos (by omega)]; rfl
def tupR (t : api_Tuple) : Bool := decide (0 ≤ t.Proto ∧ t.Proto ≤ 255) && (decide (0 ≤ t.SPort ∧ t.SPort ≤ 65535) && (decide (0 ≤ t.DPort ∧ t.DPort ≤ 65535) && (adr t.Src && (adr t.Dst && (t.Src.V6 == t.Dst.V6)))))
def tupB (t : api_Tuple) : List UInt8 := be (cond t.Src.V6 6 4) 1 ++ be t.Proto.toNat 1 ++ adB t.Src ++ adB t.Dst ++ be t.SPort.toNat 2 ++ be t.DPort.toNat 2
def tupS (t : api_Tuple) : List UInt8 := cond (tupR t) (tupB t) []
theorem within_eq {m : Int} {l : List Int} (hl : l.length < 2 ^ 40) : tuple_within m l = some (l.all fun e => decide (0 ≤ e ∧ e ≤ m)) := by
  unfold tuple_within tuple_withinF
  have key := iter_eq (step := fun (st : Int) => tuple_within_s1 m l st) (fun st => (l.drop st.toNat).all fun e => decide (0 ≤ e ∧ e ≤ m)) (fun st => 0 ≤ st ∧ st ≤ l.length) (fun st => (l.length - st).toNat) ?_ FUEL 0 ⟨by omega, by omega⟩ (by rw [FUEL_eq]; omega)
  · rw [key]; simp
  rintro p ⟨g1, g2⟩
  obtain ⟨i, rfl⟩ := Int.eq_ofNat_of_zero_le g1
  simp only [Int.toNat_natCast]
  unfold tuple_within_s1
  by_cases hi : i < l.length
  · have e1 : ((l.drop i).all fun e => decide (0 ≤ e ∧ e ≤ m)) = (decide (0 ≤ l[i] ∧ l[i] ≤ m) && (l.drop (i + 1)).all fun e => decide (0 ≤ e ∧ e ≤ m)) := by rw [List.drop_eq_getElem_cons hi]; rfl
    by_cases h1 : l[i] < 0
    · refine .inl ?_
      simp (disch := omega) only [cond_p, oreq_p, Int.toNat_natCast, List.getElem?_eq_getElem, Option.bind_some]
      rw [e1, decide_eq_false (by omega)]; rfl
    · by_cases h2 : l[i] > m
      · refine .inl ?_
        simp (disch := omega) only [cond_p, cond_n, oreq_p, Int.toNat_natCast, List.getElem?_eq_getElem, Option.bind_some]
        rw [e1, decide_eq_false (by omega)]; rfl
      · refine .inr ⟨((i + 1 : Nat) : Int), ?_, ⟨by omega, by omega⟩, by omega, ?_⟩
        · simp (disch := omega) only [cond_p, cond_n, oreq_p, Int.toNat_natCast, List.getElem?_eq_getElem, Option.bind_some, wI64]; rfl
        · simp only [Int.toNat_natCast]
          rw [e1, decide_eq_true (by omega), Bool.true_and]
  · refine .inl ?_
    rw [cond_n (by omega), List.drop_eq_nil_of_le (by omega)]; rfl
theorem tRight_eq (t : api_Tuple) : tuple_Right t = some (tupR t) := by
  unfold tuple_Right tuple_RightF tupR
  rw [within_eq (by simp), within_eq (by simp), aRight_eq, aRight_eq]
  simp only [Option.bind_some, List.all_cons, List.all_nil, Bool.and_true]
  generalize decide (0 ≤ t.Proto ∧ t.Proto ≤ 255) = a
  generalize decide (0 ≤ t.SPort ∧ t.SPort ≤ 65535) = b
  generalize decide (0 ≤ t.DPort ∧ t.DPort ≤ 65535) = c
  generalize adr t.Src = d
  generalize adr t.Dst = e
  cases a <;> cases b <;> cases c <;> cases d <;> cases e <;> rfl
theorem in13_eq (n m : Int) : R13_in n m = some (decide (0 ≤ n ∧ n ≤ m)) := by
  unfold R13_in R13_inF
  by_cases h : n ≥ 0
  · rw [cond_p h]; congr 1; rw [Bool.eq_iff_iff, decide_eq_true_eq, decide_eq_true_eq]; omega
  · rw [cond_n h]; congr 1; symm; exact decide_eq_false (by omega)
theorem rtRight_eq (t : api_Tuple) : R13_Right t = some (tupR t) := by
  unfold R13_Right R13_RightF tupR
  rw [in13_eq, in13_eq, in13_eq, raRight_eq, raRight_eq]
  simp only [Option.bind_some]
  generalize decide (0 ≤ t.Proto ∧ t.Proto ≤ 255) = a
  generalize decide (0 ≤ t.SPort ∧ t.SPort ≤ 65535) = b
  generalize decide (0 ≤ t.DPort ∧ t.DPort ≤ 65535) = c
  generalize adr t.Src = d
  generalize adr t.Dst = e
  generalize (t.Src.V6 == t.Dst.V6) = f
  cases a <;> cases b <;> cases c <;> cases d <;> cases e <;> cases f <;> rfl
theorem tupR_iff {t : api_Tuple} (h : tupR t = true) : (0 ≤ t.Proto ∧ t.Proto ≤ 255) ∧ (0 ≤ t.SPort ∧ t.SPort ≤ 65535) ∧ (0 ≤ t.DPort ∧ t.DPort ≤ 65535) ∧ adr t.Src = true ∧ adr t.Dst = true := by
  unfold tupR at h
  simp only [Bool.and_eq_true, decide_eq_true_eq] at h
  exact ⟨h.1, h.2.1, h.2.2.1, h.2.2.2.1, h.2.2.2.2.1⟩
theorem tPut_eq {t : api_Tuple} (hs : inU t.Src) (hd : inU t.Dst) : tuple_Put t = some (tupS t) := by
  unfold tuple_Put tuple_PutF tupS
  rw [tRight_eq, Option.bind_some]
  cases hr : tupR t with
  | false => rfl
  | true =>
    obtain ⟨⟨a1, a2⟩, ⟨b1, b2⟩, ⟨c1, c2⟩, d, e⟩ := tupR_iff hr
    have ls := adB_len t.Src
    have ld := adB_len t.Dst
    rw [Bool.not_true, cond_false, cond_true, aPut_eq hs d, aPut_eq hd e]
    have ek : tuple_kind t.Src.V6 = some ((cond t.Src.V6 6 4 : Nat) : Int) := by cases t.Src.V6 <;> rfl
    have k1 : (cond t.Src.V6 6 4 : Nat) ≤ 6 := by cases t.Src.V6 <;> decide
    unfold tupB
    rw [ek]
    generalize (cond t.Src.V6 6 4 : Nat) = k at *
    simp only [Option.bind_some]
    obtain ⟨P, hP⟩ := Int.eq_ofNat_of_zero_le a1
    obtain ⟨S, hS⟩ := Int.eq_ofNat_of_zero_le b1
    obtain ⟨D, hD⟩ := Int.eq_ofNat_of_zero_le c1
    rw [hP] at a2 ⊢; rw [hS] at b2 ⊢; rw [hD] at c2 ⊢
    have e1 : wI .u64 (iorI .i64 (wI .i64 ((k : Int) * 2 ^ 8)) (P : Int)) = ((k * 256 + P : Nat) : Int) := by
      rw [wI64 (n := (k : Int) * 2 ^ 8) (by omega) (by omega), iorI64_low 8 (by omega) (by omega) (by omega) (by omega) (by omega), wU64 (by omega) (by omega)]; omega
    have e2 : iorI .u64 (wI .u64 ((wI .u64 (S : Int)) * 2 ^ 16)) (wI .u64 (D : Int)) = ((S * 65536 + D : Nat) : Int) := by
      rw [wU64 (n := (S : Int)) (by omega) (by omega), wU64 (n := (D : Int)) (by omega) (by omega), wU64 (n := (S : Int) * 2 ^ 16) (by omega) (by omega), iorU64_low 16 (by omega) (by omega) (by omega) (by omega) (by omega)]; omega
    rw [e1, e2, octet_Put_eq (by omega), octet_Put_eq (by omega)]
    simp only [Option.bind_some, putS]
    rw [if_pos (by omega), if_pos (by omega)]
    have f1 : be (k * 256 + P) 2 = be k 1 ++ be P 1 := by
      refine be_of (by simp) ?_
      rw [val_append, val_be, val_be]; simp only [be_len]; omega
    have f2 : be (S * 65536 + D) 4 = be S 2 ++ be D 2 := by
      refine be_of (by simp) ?_
      rw [val_append, val_be, val_be]; simp only [be_len]; omega
    simp only [Int.toNat_natCast, show (2 : Int).toNat = 2 from rfl, show (4 : Int).toNat = 4 from rfl, f1, f2]
    rw [oreq_p (by simp; omega), oreq_p (by simp; omega), oreq_p (by simp; omega)]
    simp
theorem rtPut_eq {t : api_Tuple} (hs : inU t.Src) (hd : inU t.Dst) : R13_Put t = some (tupS t) := by
  unfold R13_Put R13_PutF tupS
  rw [rtRight_eq, Option.bind_some]
  cases hr : tupR t with
  | false => rfl
  | true =>
    obtain ⟨⟨a1, a2⟩, ⟨b1, b2⟩, ⟨c1, c2⟩, d, e⟩ := tupR_iff hr
    have ls := adB_len t.Src
    have ld := adB_len t.Dst
    rw [Bool.not_true, cond_false, cond_true, raPut_eq hs d, raPut_eq hd e]
    unfold tupB
    rw [wU64 (n := t.Proto) (by omega) (by omega), wU64 (n := t.SPort) (by omega) (by omega), wU64 (n := t.DPort) (by omega) (by omega)]
    simp (disch := omega) only [R02_Put_eq, Option.bind_some, putS]
    simp only [show (1 : Int) ≤ 1 ∧ (1 : Int) ≤ 8 from by omega, show (1 : Int) ≤ 2 ∧ (2 : Int) ≤ 8 from by omega, and_self, if_true, show (1 : Int).toNat = 1 from rfl, show (2 : Int).toNat = 2 from rfl, show (6 : Int).toNat = 6 from rfl, show (4 : Int).toNat = 4 from rfl]
    cases t.Src.V6
    · rw [cond_false, oreq_p (by simp), oreq_p (by simp; omega), oreq_p (by simp; omega), oreq_p (by simp; omega), oreq_p (by simp; omega)]; rfl
    · rw [cond_true, oreq_p (by simp), oreq_p (by simp; omega), oreq_p (by simp; omega), oreq_p (by simp; omega), oreq_p (by simp; omega)]; rfl
theorem tupS_len (t : api_Tuple) : (tupS t).length ≤ 40 := by
  have ls := adB_len t.Src
  have ld := adB_len t.Dst
  unfold tupS tupB
  cases tupR t <;> simp <;> omega

/-! masks -/
def mskI (k : Int) : Int := if 0 ≤ k ∧ k ≤ 64 then 2 ^ k.toNat - 1 else 0
theorem mask65 : ∀ k : Fin 65, cmplI .u64 (wI .u64 (18446744073709551615 * 2 ^ (min k.val 64))) = 2 ^ k.val - 1 := by decide +kernel
theorem Mask_eq (k : Int) : num_Mask k = some (mskI k) := by
  unfold num_Mask num_MaskF mskI
  by_cases h1 : k < 0
  · rw [cond_p h1, if_neg (by omega)]
  rw [cond_n h1]
  by_cases h2 : k > 64
  · rw [cond_p h2, if_neg (by omega)]
  rw [cond_n h2, oreq_p (by omega), if_pos (by omega)]
  have := mask65 ⟨k.toNat, by omega⟩
  simp only at this ⊢
  rw [this]
theorem pow64 {i : Nat} (h : i ≤ 64) : (2 : Int) ^ i ≤ 18446744073709551616 ∧ (1 : Int) ≤ 2 ^ i := by
  have a : (2 : Nat) ^ i ≤ 2 ^ 64 := Nat.pow_le_pow_right (by decide) h
  have b : 1 ≤ (2 : Nat) ^ i := Nat.one_le_two_pow
  have e : ((2 : Int) ^ i) = ((2 ^ i : Nat) : Int) := by push_cast; rfl
  rw [e]; omega
theorem rMask_eq (k : Int) : R01_Mask k = some (mskI k) := by
  unfold R01_Mask R01_MaskF mskI
  by_cases h1 : 0 ≤ k ∧ k ≤ 64
  · rw [if_pos h1]
    obtain ⟨j, rfl⟩ := Int.eq_ofNat_of_zero_le h1.1
    rw [Int.toNat_natCast]
    refine iter_eq (step := fun (st : Int × Int) => R01_Mask_s1 (j : Int) st.1 st.2) (fun _ => (2 : Int) ^ j - 1) (fun st => ∃ i : Nat, st.2 = i ∧ i ≤ j ∧ st.1 = 2 ^ i - 1) (fun st => (j - st.2).toNat) ?_ FUEL (0, 0) ⟨0, rfl, by omega, by simp⟩ (by rw [FUEL_eq]; simp only; omega)
    rintro ⟨n, p⟩ ⟨i, g1, g2, g3⟩
    simp only at g1 g3 ⊢
    subst g1 g3
    unfold R01_Mask_s1
    by_cases hi : i < j
    · refine .inr ⟨((2 : Int) ^ (i + 1) - 1, ((i + 1 : Nat) : Int)), ?_, ⟨i + 1, rfl, by omega, rfl⟩, by simp only; omega, trivial⟩
      have a := pow64 (i := i + 1) (by omega)
      have b := pow64 (i := i) (by omega)
      have e : (2 : Int) ^ (i + 1) = 2 ^ i * 2 := Int.pow_succ _ _
      rw [e] at a ⊢
      generalize (2 : Int) ^ i = x at *
      rw [cond_p (by omega), cond_p (by omega), wI64 (by omega) (by omega), wU64 (n := (x - 1) * 2 ^ 1) (by omega) (by omega), iorU64_low 1 (by omega) (by omega) (by omega) (by omega) (by omega)]
      congr 3
      omega
    · refine .inl ?_
      obtain rfl : i = j := by omega
      rw [cond_n (by omega)]
  · rw [if_neg h1]
    show iter _ (18446744073709551615 + 1) _ = _
    rw [iter]
    have : R01_Mask_s1 k 0 0 = some (.inr 0) := by
      unfold R01_Mask_s1
      by_cases h2 : 0 < k
      · rw [cond_p h2, cond_n (by omega)]
      · rw [cond_n h2]
    simp only [this]
end Go.Vm.Code

namespace Go.Vm.Code
open Go Go.Vm Go.Proofs
set_option maxRecDepth 100000
set_option maxHeartbeats 4000000
set_option linter.unusedVariables false

/-! cloakroom/cloakroomref12.turn -/
def R12_turnF (n : Int) (k : Int) : Option Int :=
  oreq (decide (0 ≤ k)) <|
  oreq (decide (0 ≤ (wI .i64 (64 - k)))) <|
  let t := n.fdiv (2 ^ (min (wI .i64 (64 - k)).toNat 64))
  let t1 := iorI .u64 (wI .u64 (n * 2 ^ (min k.toNat 64))) t
  some (t1)
def post143 (x : Int) (v : Value) (H : Hp) : Prop := v = .int .u64 x
def r143 (g : Int → Int → Option Int) : List SArg → Option SRes
  | [.v (.int .u64 a0_1), .v (.int .i64 a1_1)] => match g a0_1 a1_1 with | some x => some ⟨.int .u64 x, [], []⟩ | none => none
  | _ => none
def s143 (g : Int → Int → Option Int) : Summ := ⟨[.v, .v], r143 g⟩
theorem r143_eq {g : Int → Int → Option Int} {a0_1 : Int} {a1_1 : Int} {x : Int} (hx : g a0_1 a1_1 = some x) : (s143 g).run [.v (.int .u64 a0_1), .v (.int .i64 a1_1)] = some ⟨.int .u64 x, [], []⟩ := by
  show r143 g [.v (.int .u64 a0_1), .v (.int .i64 a1_1)] = _
  simp only [r143, hx]
abbrev sums143 : List (Nat × Summ) := []
theorem leads143 (hS : SumsOK Try.prog (aget (sums143))) (n : Int) (k : Int) (res : Int) (h : R12_turnF n k = some res) :
    Leads Try.prog 143 0 ⟨⟨143, 13, [(0, .int .u64 n), (1, .int .i64 k)], [.code k143_3], [], false, none⟩, [], [], 0⟩ (fun v H _ => post143 res v H) := by
  unfold R12_turnF at h
  refine ev_ok tab_ok hS true 3000 ?_
  conv => whnf
  replace h := oreq.elim h; have hb := h.1; replace h := h.2
  first | (refine req.intro hb ?_; conv => whnf) | skip
  replace h := oreq.elim h; have hb := h.1; replace h := h.2
  first | (refine req.intro hb ?_; conv => whnf) | skip
  let t : Int := n.fdiv (2 ^ (min (wI .i64 (64 - k)).toNat 64))
  let t1 : Int := iorI .u64 (wI .u64 (n * 2 ^ (min k.toNat 64))) t
  all_goals (cases h)
  all_goals exact rfl
theorem ok143 (hS : SumsOK Try.prog (aget (sums143))) : SumOK Try.prog 143 (s143 (R12_turnF)) := by
  refine SumOK.of_leads tab_ok (fun ar r ha hr => ?_) ⟨Try.f143, rfl, by decide, rfl⟩
  simp only [s143] at ha hr
  unfold r143 at hr
  split at hr <;> try (cases hr; done)
  split at hr <;> cases hr
  rename_i x h
  refine ⟨_, rfl, (leads143 hS _ _ x h).mono fun v H t hp => ?_⟩
  cases hp
  exact Res.val rfl trivial
def R12_turn : Int → Int → Option Int := R12_turnF
theorem lift143 : SumOK Try.prog 143 (s143 R12_turn) := ok143 (SumsOK.of_tab trivial)
end Go.Vm.Code

namespace Go.Vm.Code
open Go Go.Vm Go.Proofs
set_option maxRecDepth 100000
set_option maxHeartbeats 4000000
set_option linter.unusedVariables false

/-! cloakroom/cloakroomref12.Round -/
def R12_RoundF (R12_turn : Int → Int → Option Int) (a : Int) (b : Int) (c : Int) (d : Int) : Option (Int × Int × Int × Int) :=
  (R12_turn b 13).bind fun t =>
  (R12_turn (wI .u64 (a + b)) 32).bind fun t1 =>
  (R12_turn d 16).bind fun t2 =>
  let t3 := wI .u64 (t1 + (ixorI .u64 t2 (wI .u64 (c + d))))
  (R12_turn (ixorI .u64 t2 (wI .u64 (c + d))) 21).bind fun t4 =>
  let t5 := wI .u64 ((wI .u64 (c + d)) + (ixorI .u64 t (wI .u64 (a + b))))
  (R12_turn (ixorI .u64 t (wI .u64 (a + b))) 17).bind fun t6 =>
  (R12_turn t5 32).bind fun t7 =>
  some ((t3, ixorI .u64 t6 t5, t7, ixorI .u64 t4 t3))
def post124 (x : Int × Int × Int × Int) (v : Value) (H : Hp) : Prop := v = .tuple ⟨[.int .u64 x.1, .int .u64 x.2.1, .int .u64 x.2.2.1, .int .u64 x.2.2.2]⟩
def r124 (g : Int → Int → Int → Int → Option (Int × Int × Int × Int)) : List SArg → Option SRes
  | [.v (.int .u64 a0_1), .v (.int .u64 a1_1), .v (.int .u64 a2_1), .v (.int .u64 a3_1)] => match g a0_1 a1_1 a2_1 a3_1 with | some x => some ⟨.tuple ⟨[.int .u64 x.1, .int .u64 x.2.1, .int .u64 x.2.2.1, .int .u64 x.2.2.2]⟩, [], []⟩ | none => none
  | _ => none
def s124 (g : Int → Int → Int → Int → Option (Int × Int × Int × Int)) : Summ := ⟨[.v, .v, .v, .v], r124 g⟩
theorem r124_eq {g : Int → Int → Int → Int → Option (Int × Int × Int × Int)} {a0_1 : Int} {a1_1 : Int} {a2_1 : Int} {a3_1 : Int} {x : Int × Int × Int × Int} (hx : g a0_1 a1_1 a2_1 a3_1 = some x) : (s124 g).run [.v (.int .u64 a0_1), .v (.int .u64 a1_1), .v (.int .u64 a2_1), .v (.int .u64 a3_1)] = some ⟨.tuple ⟨[.int .u64 x.1, .int .u64 x.2.1, .int .u64 x.2.2.1, .int .u64 x.2.2.2]⟩, [], []⟩ := by
  show r124 g [.v (.int .u64 a0_1), .v (.int .u64 a1_1), .v (.int .u64 a2_1), .v (.int .u64 a3_1)] = _
  simp only [r124, hx]
abbrev sums124 (R12_turn : Int → Int → Option Int) : List (Nat × Summ) := [(143, s143 R12_turn)]
theorem leads124 (R12_turn : Int → Int → Option Int) (hS : SumsOK Try.prog (aget (sums124 R12_turn))) (a : Int) (b : Int) (c : Int) (d : Int) (res : Int × Int × Int × Int) (h : R12_RoundF R12_turn a b c d = some res) :
    Leads Try.prog 124 0 ⟨⟨124, 48, [(0, .int .u64 a), (1, .int .u64 b), (2, .int .u64 c), (3, .int .u64 d)], [.code k124_23], [], false, none⟩, [], [], 0⟩ (fun v H _ => post124 res v H) := by
  unfold R12_RoundF at h
  refine ev_ok tab_ok hS true 3000 ?_
  conv => whnf
  obtain ⟨t, hy, h2⟩ := obind.elim h; clear h; have h := h2; clear h2
  refine sumK.introF [] (sumRun_of (aqs := [.v (.int .u64 b), .v (.int .i64 13)]) (ra_cons rfl (ra_cons rfl ra_nil)) (r143_eq hy) rfl rfl rfl rfl) ?_
  conv => whnf
  obtain ⟨t1, hy, h2⟩ := obind.elim h; clear h; have h := h2; clear h2
  refine sumK.introF [] (sumRun_of (aqs := [.v (.int .u64 (wI .u64 (a + b))), .v (.int .i64 32)]) (ra_cons rfl (ra_cons rfl ra_nil)) (r143_eq hy) rfl rfl rfl rfl) ?_
  conv => whnf
  obtain ⟨t2, hy, h2⟩ := obind.elim h; clear h; have h := h2; clear h2
  refine sumK.introF [] (sumRun_of (aqs := [.v (.int .u64 d), .v (.int .i64 16)]) (ra_cons rfl (ra_cons rfl ra_nil)) (r143_eq hy) rfl rfl rfl rfl) ?_
  conv => whnf
  let t3 : Int := wI .u64 (t1 + (ixorI .u64 t2 (wI .u64 (c + d))))
  obtain ⟨t4, hy, h2⟩ := obind.elim h; clear h; have h := h2; clear h2
  refine sumK.introF [] (sumRun_of (aqs := [.v (.int .u64 (ixorI .u64 t2 (wI .u64 (c + d)))), .v (.int .i64 21)]) (ra_cons rfl (ra_cons rfl ra_nil)) (r143_eq hy) rfl rfl rfl rfl) ?_
  conv => whnf
  let t5 : Int := wI .u64 ((wI .u64 (c + d)) + (ixorI .u64 t (wI .u64 (a + b))))
  obtain ⟨t6, hy, h2⟩ := obind.elim h; clear h; have h := h2; clear h2
  refine sumK.introF [] (sumRun_of (aqs := [.v (.int .u64 (ixorI .u64 t (wI .u64 (a + b)))), .v (.int .i64 17)]) (ra_cons rfl (ra_cons rfl ra_nil)) (r143_eq hy) rfl rfl rfl rfl) ?_
  conv => whnf
  obtain ⟨t7, hy, h2⟩ := obind.elim h; clear h; have h := h2; clear h2
  refine sumK.introF [] (sumRun_of (aqs := [.v (.int .u64 t5), .v (.int .i64 32)]) (ra_cons rfl (ra_cons rfl ra_nil)) (r143_eq hy) rfl rfl rfl rfl) ?_
  conv => whnf
  all_goals (cases h)
  all_goals exact rfl
theorem ok124 (R12_turn : Int → Int → Option Int) (hS : SumsOK Try.prog (aget (sums124 R12_turn))) : SumOK Try.prog 124 (s124 (R12_RoundF R12_turn)) := by
  refine SumOK.of_leads tab_ok (fun ar r ha hr => ?_) ⟨Try.f124, rfl, by decide, rfl⟩
  simp only [s124] at ha hr
  unfold r124 at hr
  split at hr <;> try (cases hr; done)
  split at hr <;> cases hr
  rename_i x h
  refine ⟨_, rfl, (leads124 R12_turn hS _ _ _ _ x h).mono fun v H t hp => ?_⟩
  cases hp
  exact Res.val rfl trivial
def R12_Round : Int → Int → Int → Int → Option (Int × Int × Int × Int) := R12_RoundF R12_turn
theorem lift124 : SumOK Try.prog 124 (s124 R12_Round) := ok124 R12_turn (SumsOK.of_tab ⟨lift143, trivial⟩)
end Go.Vm.Code

namespace Go.Vm.Code
open Go Go.Vm Go.Proofs
set_option maxRecDepth 100000
set_option maxHeartbeats 4000000
set_option linter.unusedVariables false

/-! cloakroom/cloakroomref12.Mix -/
def R12_Mix_s1 (R12_Round : Int → Int → Int → Int → Option (Int × Int × Int × Int)) (rounds : Int) (a1 : Int) (b1 : Int) (c1 : Int) (d1 : Int) (i : Int) : Option (Sum (Int × Int × Int × Int × Int) Arr4_Int) :=
  cond (decide (i < rounds))
    (
    cond (decide (i < 64))
      (
      (R12_Round a1 b1 c1 d1).bind fun xr =>
      some (.inl (xr.1, xr.2.1, xr.2.2.1, xr.2.2.2, wI .i64 (i + 1))))
      (
      some (.inr (Arr4_Int.mk a1 b1 c1 d1))))
    (
    some (.inr (Arr4_Int.mk a1 b1 c1 d1)))
def R12_MixF (R12_Round : Int → Int → Int → Int → Option (Int × Int × Int × Int)) (a : Int) (b : Int) (c : Int) (d : Int) (rounds : Int) : Option Arr4_Int :=
  iter (fun st => R12_Mix_s1 R12_Round rounds st.1 st.2.1 st.2.2.1 st.2.2.2.1 st.2.2.2.2) FUEL (a, b, c, d, 0)
def post125 (x : Arr4_Int) (v : Value) (H : Hp) : Prop := v = .agg ⟨[.int .u64 x.e0, .int .u64 x.e1, .int .u64 x.e2, .int .u64 x.e3]⟩
def r125 (g : Int → Int → Int → Int → Int → Option Arr4_Int) : List SArg → Option SRes
  | [.v (.int .u64 a0_1), .v (.int .u64 a1_1), .v (.int .u64 a2_1), .v (.int .u64 a3_1), .v (.int .i64 a4_1)] => match g a0_1 a1_1 a2_1 a3_1 a4_1 with | some x => some ⟨.agg ⟨[.int .u64 x.e0, .int .u64 x.e1, .int .u64 x.e2, .int .u64 x.e3]⟩, [], []⟩ | none => none
  | _ => none
def s125 (g : Int → Int → Int → Int → Int → Option Arr4_Int) : Summ := ⟨[.v, .v, .v, .v, .v], r125 g⟩
theorem r125_eq {g : Int → Int → Int → Int → Int → Option Arr4_Int} {a0_1 : Int} {a1_1 : Int} {a2_1 : Int} {a3_1 : Int} {a4_1 : Int} {x : Arr4_Int} (hx : g a0_1 a1_1 a2_1 a3_1 a4_1 = some x) : (s125 g).run [.v (.int .u64 a0_1), .v (.int .u64 a1_1), .v (.int .u64 a2_1), .v (.int .u64 a3_1), .v (.int .i64 a4_1)] = some ⟨.agg ⟨[.int .u64 x.e0, .int .u64 x.e1, .int .u64 x.e2, .int .u64 x.e3]⟩, [], []⟩ := by
  show r125 g [.v (.int .u64 a0_1), .v (.int .u64 a1_1), .v (.int .u64 a2_1), .v (.int .u64 a3_1), .v (.int .i64 a4_1)] = _
  simp only [r125, hx]
abbrev sums125 (R12_Round : Int → Int → Int → Int → Option (Int × Int × Int × Int)) : List (Nat × Summ) := [(124, s124 R12_Round)]
def head125_1 (rounds : Int) (a1 : Int) (b1 : Int) (c1 : Int) (d1 : Int) (i : Int) : VM :=
  ⟨⟨125, 36, [(0, .int .u64 a1), (1, .int .u64 b1), (2, .int .u64 c1), (3, .int .u64 d1), (4, .int .i64 rounds), (10, .pointer (some ⟨0, 0, none⟩)), (11, .int .i64 i)], [.code k125_9, .inLoop k125_9, .inBlock 0, .code k125_14], [], false, none⟩, [], [(0, .cells [.int .u64 0, .int .u64 0, .int .u64 0, .int .u64 0])], 1⟩
theorem loop125_1 (R12_Round : Int → Int → Int → Int → Option (Int × Int × Int × Int)) (hS : SumsOK Try.prog (aget (sums125 R12_Round))) (rounds : Int) (res : Arr4_Int) : ∀ fuel (st : Int × Int × Int × Int × Int) (o : Arr4_Int), iter (fun st => R12_Mix_s1 R12_Round rounds st.1 st.2.1 st.2.2.1 st.2.2.2.1 st.2.2.2.2) fuel st = some o → (o = res) →
    Leads Try.prog 125 0 (head125_1 rounds st.1 st.2.1 st.2.2.1 st.2.2.2.1 st.2.2.2.2) (fun v H _ => post125 res v H) := by
  intro fuel st o h hc
  refine iter_leads (head := fun st => head125_1 rounds st.1 st.2.1 st.2.2.1 st.2.2.2.1 st.2.2.2.2) (C := fun o => (o = res)) ?_ fuel st o h hc
  clear h hc o st fuel
  intro st o h hc
  obtain ⟨a1, b1, c1, d1, i⟩ := st
  replace h : R12_Mix_s1 R12_Round rounds a1 b1 c1 d1 i = some o := h
  show Leads Try.prog 125 0 (head125_1 rounds a1 b1 c1 d1 i) (fun v H _ => post125 res v H)
  unfold R12_Mix_s1 at h
  refine ev_ok tab_ok hS true 3000 ?_
  conv => whnf
  refine br.h2 h ?_ ?_ ?_
  · rfl
  · clear h; intro hb h; conv => whnf
    all_goals (cases h; cases hc)
    all_goals exact rfl
  clear h; intro hb h; conv => whnf
  refine br.h2 h ?_ ?_ ?_
  · rfl
  · clear h; intro hb h; conv => whnf
    all_goals (cases h; cases hc)
    all_goals exact rfl
  clear h; intro hb h; conv => whnf
  obtain ⟨xr, hy, h2⟩ := obind.elim h; clear h; have h := h2; clear h2
  refine sumK.introF [] (sumRun_of (aqs := [.v (.int .u64 a1), .v (.int .u64 b1), .v (.int .u64 c1), .v (.int .u64 d1)]) (ra_cons rfl (ra_cons rfl (ra_cons rfl (ra_cons rfl ra_nil)))) (r124_eq hy) rfl rfl rfl rfl) ?_
  conv => whnf
  cases h; simp only [Sum.elim_inl, Sum.elim_inr, head125_1] at hc
  refine Leads.re hc [(0, 0)] rfl ?_ ?_ <;> (repeat' first | exact trivial | refine ⟨⟨_, rfl, rfl⟩, ?_⟩ | refine ⟨⟨_, _, rfl, rfl, .rowF (vI_flat _ _) id⟩, ?_⟩ | refine ⟨⟨_, _, rfl, rfl, .rowF (vS_flat _) id⟩, ?_⟩ | refine ⟨⟨_, _, rfl, rfl, .rowF (vB_flat _) id⟩, ?_⟩ | refine ⟨⟨_, _, rfl, rfl, .cells rfl⟩, ?_⟩ | refine ⟨⟨_, _, rfl, rfl, .row rfl id⟩, ?_⟩ | refine ⟨⟨_, _, rfl, rfl, .cr rfl⟩, ?_⟩ | refine ⟨⟨_, _, rfl, rfl, .rc rfl⟩, ?_⟩ | refine ⟨⟨_, _, rfl, rfl, .marks⟩, ?_⟩ | refine ⟨⟨_, _, rfl, rfl, .siter _ _⟩, ?_⟩ | refine ⟨⟨_, _, rfl, rfl, .loop rfl rfl rfl rfl (by repeat' first | exact trivial | refine ⟨rfl, ?_⟩) rfl rfl rfl rfl⟩, ?_⟩)
theorem leads125 (R12_Round : Int → Int → Int → Int → Option (Int × Int × Int × Int)) (hS : SumsOK Try.prog (aget (sums125 R12_Round))) (a : Int) (b : Int) (c : Int) (d : Int) (rounds : Int) (res : Arr4_Int) (h : R12_MixF R12_Round a b c d rounds = some res) :
    Leads Try.prog 125 0 ⟨⟨125, 36, [(0, .int .u64 a), (1, .int .u64 b), (2, .int .u64 c), (3, .int .u64 d), (4, .int .i64 rounds)], [.code k125_16], [], false, none⟩, [], [], 0⟩ (fun v H _ => post125 res v H) := by
  unfold R12_MixF at h
  refine ev_ok tab_ok hS true 3000 ?_
  conv => whnf
  have hl := loop125_1 R12_Round hS _ res _ _ _ h rfl; simp only [head125_1] at hl
  refine Leads.re hl [(0, 0)] rfl ?_ ?_ <;> (repeat' first | exact trivial | refine ⟨⟨_, rfl, rfl⟩, ?_⟩ | refine ⟨⟨_, _, rfl, rfl, .rowF (vI_flat _ _) id⟩, ?_⟩ | refine ⟨⟨_, _, rfl, rfl, .rowF (vS_flat _) id⟩, ?_⟩ | refine ⟨⟨_, _, rfl, rfl, .rowF (vB_flat _) id⟩, ?_⟩ | refine ⟨⟨_, _, rfl, rfl, .cells rfl⟩, ?_⟩ | refine ⟨⟨_, _, rfl, rfl, .row rfl id⟩, ?_⟩ | refine ⟨⟨_, _, rfl, rfl, .cr rfl⟩, ?_⟩ | refine ⟨⟨_, _, rfl, rfl, .rc rfl⟩, ?_⟩ | refine ⟨⟨_, _, rfl, rfl, .marks⟩, ?_⟩ | refine ⟨⟨_, _, rfl, rfl, .siter _ _⟩, ?_⟩ | refine ⟨⟨_, _, rfl, rfl, .loop rfl rfl rfl rfl (by repeat' first | exact trivial | refine ⟨rfl, ?_⟩) rfl rfl rfl rfl⟩, ?_⟩)
theorem ok125 (R12_Round : Int → Int → Int → Int → Option (Int × Int × Int × Int)) (hS : SumsOK Try.prog (aget (sums125 R12_Round))) : SumOK Try.prog 125 (s125 (R12_MixF R12_Round)) := by
  refine SumOK.of_leads tab_ok (fun ar r ha hr => ?_) ⟨Try.f125, rfl, by decide, rfl⟩
  simp only [s125] at ha hr
  unfold r125 at hr
  split at hr <;> try (cases hr; done)
  split at hr <;> cases hr
  rename_i x h
  refine ⟨_, rfl, (leads125 R12_Round hS _ _ _ _ _ x h).mono fun v H t hp => ?_⟩
  cases hp
  exact Res.val rfl trivial
def R12_Mix : Int → Int → Int → Int → Int → Option Arr4_Int := R12_MixF R12_Round
theorem lift125 : SumOK Try.prog 125 (s125 R12_Mix) := ok125 R12_Round (SumsOK.of_tab ⟨lift124, trivial⟩)
end Go.Vm.Code

namespace Go.Vm.Code
open Go Go.Vm Go.Proofs
set_option maxRecDepth 100000
set_option maxHeartbeats 4000000
set_option linter.unusedVariables false

/-! cloakroom/sip.New -/
def sip_NewF (k : api_Key) : Option sip_Hasher :=
  some (sip_Hasher.mk true (Arr4_Int.mk (ixorI .u64 8317987319222330741 k.A) (ixorI .u64 7237128888997146477 k.B) (ixorI .u64 7816392313619706465 k.A) (ixorI .u64 8387220255154660723 k.B)) 0 0)
def post94 (x : sip_Hasher) (v : Value) (H : Hp) : Prop := ∃ j, 0 ≤ j ∧ (aget H j = some (.row true [.bool x.made, .int .u64 x.s.e0, .int .u64 x.s.e1, .int .u64 x.s.e2, .int .u64 x.s.e3, .int .u64 x.last, .int .i64 x.count]) ∨ aget H j = some (.cells [.bool x.made, .int .u64 x.s.e0, .int .u64 x.s.e1, .int .u64 x.s.e2, .int .u64 x.s.e3, .int .u64 x.last, .int .i64 x.count])) ∧ v = .pointer (some ⟨j, 0, none⟩)
def r94 (g : api_Key → Option sip_Hasher) : List SArg → Option SRes
  | [.v (.agg ⟨[.int .u64 a0_1, .int .u64 a0_2]⟩)] => match g (api_Key.mk a0_1 a0_2) with | some x => some ⟨.pointer (some ⟨0, 0, none⟩), [[.bool x.made, .int .u64 x.s.e0, .int .u64 x.s.e1, .int .u64 x.s.e2, .int .u64 x.s.e3, .int .u64 x.last, .int .i64 x.count]], []⟩ | none => none
  | _ => none
def s94 (g : api_Key → Option sip_Hasher) : Summ := ⟨[.v], r94 g⟩
theorem r94_eq {g : api_Key → Option sip_Hasher} {a0_1 : Int} {a0_2 : Int} {x : sip_Hasher} (hx : g (api_Key.mk a0_1 a0_2) = some x) : (s94 g).run [.v (.agg ⟨[.int .u64 a0_1, .int .u64 a0_2]⟩)] = some ⟨.pointer (some ⟨0, 0, none⟩), [[.bool x.made, .int .u64 x.s.e0, .int .u64 x.s.e1, .int .u64 x.s.e2, .int .u64 x.s.e3, .int .u64 x.last, .int .i64 x.count]], []⟩ := by
  show r94 g [.v (.agg ⟨[.int .u64 a0_1, .int .u64 a0_2]⟩)] = _
  simp only [r94, hx]
abbrev sums94 : List (Nat × Summ) := []
theorem leads94 (hS : SumsOK Try.prog (aget (sums94))) (k : api_Key) (res : sip_Hasher) (h : sip_NewF k = some res) :
    Leads Try.prog 94 0 ⟨⟨94, 18, [(0, .agg ⟨[.int .u64 k.A, .int .u64 k.B]⟩)], [.code k94_3], [], false, none⟩, [], [], 0⟩ (fun v H _ => post94 res v H) := by
  unfold sip_NewF at h
  refine ev_ok tab_ok hS true 3000 ?_
  conv => whnf
  all_goals (cases h)
  all_goals exact ⟨1, by omega, .inr rfl, rfl⟩
theorem ok94 (hS : SumsOK Try.prog (aget (sums94))) : SumOK Try.prog 94 (s94 (sip_NewF)) := by
  refine SumOK.of_leads tab_ok (fun ar r ha hr => ?_) ⟨Try.f94, rfl, by decide, rfl⟩
  simp only [s94] at ha hr
  unfold r94 at hr
  split at hr <;> try (cases hr; done)
  split at hr <;> cases hr
  rename_i x h
  refine ⟨_, rfl, (leads94 hS _ x h).mono fun v H t hp => ?_⟩
  obtain ⟨j, hj, hc, hp⟩ := hp
  cases hp
  exact Res.one j rfl hc trivial hj
def sip_New : api_Key → Option sip_Hasher := sip_NewF
theorem lift94 : SumOK Try.prog 94 (s94 sip_New) := ok94 (SumsOK.of_tab trivial)
end Go.Vm.Code

namespace Go.Vm.Code
open Go Go.Vm Go.Proofs
set_option maxRecDepth 100000
set_option maxHeartbeats 4000000
set_option linter.unusedVariables false

/-! math/bits.RotateLeft64 -/
def math_bits_RotateLeft64F (x : Int) (k : Int) : Option Int :=
  oreq (decide (0 ≤ (andI .u64 (wI .u64 k) 63))) <|
  let t := wI .u64 (x * 2 ^ (min (andI .u64 (wI .u64 k) 63).toNat 64))
  let t1 := wI .u64 (64 - (andI .u64 (wI .u64 k) 63))
  oreq (decide (0 ≤ t1)) <|
  let t2 := iorI .u64 t (x.fdiv (2 ^ (min t1.toNat 64)))
  some (t2)
def post151 (x : Int) (v : Value) (H : Hp) : Prop := v = .int .u64 x
def r151 (g : Int → Int → Option Int) : List SArg → Option SRes
  | [.v (.int .u64 a0_1), .v (.int .i64 a1_1)] => match g a0_1 a1_1 with | some x => some ⟨.int .u64 x, [], []⟩ | none => none
  | _ => none
def s151 (g : Int → Int → Option Int) : Summ := ⟨[.v, .v], r151 g⟩
theorem r151_eq {g : Int → Int → Option Int} {a0_1 : Int} {a1_1 : Int} {x : Int} (hx : g a0_1 a1_1 = some x) : (s151 g).run [.v (.int .u64 a0_1), .v (.int .i64 a1_1)] = some ⟨.int .u64 x, [], []⟩ := by
  show r151 g [.v (.int .u64 a0_1), .v (.int .i64 a1_1)] = _
  simp only [r151, hx]
abbrev sums151 : List (Nat × Summ) := []
theorem leads151 (hS : SumsOK Try.prog (aget (sums151))) (x : Int) (k : Int) (res : Int) (h : math_bits_RotateLeft64F x k = some res) :
    Leads Try.prog 151 0 ⟨⟨151, 17, [(0, .int .u64 x), (1, .int .i64 k)], [.code k151_5], [], false, none⟩, [], [], 0⟩ (fun v H _ => post151 res v H) := by
  unfold math_bits_RotateLeft64F at h
  refine ev_ok tab_ok hS true 3000 ?_
  conv => whnf
  replace h := oreq.elim h; have hb := h.1; replace h := h.2
  first | (refine req.intro hb ?_; conv => whnf) | skip
  let t : Int := wI .u64 (x * 2 ^ (min (andI .u64 (wI .u64 k) 63).toNat 64))
  let t1 : Int := wI .u64 (64 - (andI .u64 (wI .u64 k) 63))
  replace h := oreq.elim h; have hb := h.1; replace h := h.2
  first | (refine req.intro hb ?_; conv => whnf) | skip
  let t2 : Int := iorI .u64 t (x.fdiv (2 ^ (min t1.toNat 64)))
  all_goals (cases h)
  all_goals exact rfl
theorem ok151 (hS : SumsOK Try.prog (aget (sums151))) : SumOK Try.prog 151 (s151 (math_bits_RotateLeft64F)) := by
  refine SumOK.of_leads tab_ok (fun ar r ha hr => ?_) ⟨Try.f151, rfl, by decide, rfl⟩
  simp only [s151] at ha hr
  unfold r151 at hr
  split at hr <;> try (cases hr; done)
  split at hr <;> cases hr
  rename_i x h
  refine ⟨_, rfl, (leads151 hS _ _ x h).mono fun v H t hp => ?_⟩
  cases hp
  exact Res.val rfl trivial
def math_bits_RotateLeft64 : Int → Int → Option Int := math_bits_RotateLeft64F
theorem lift151 : SumOK Try.prog 151 (s151 math_bits_RotateLeft64) := ok151 (SumsOK.of_tab trivial)
end Go.Vm.Code

namespace Go.Vm.Code
open Go Go.Vm Go.Proofs
set_option maxRecDepth 100000
set_option maxHeartbeats 4000000
set_option linter.unusedVariables false

/-! (*cloakroom/sip.state).round -/
def sip_state_roundF (math_bits_RotateLeft64 : Int → Int → Option Int) (s : Arr4_Int) : Option Arr4_Int :=
  (math_bits_RotateLeft64 s.e1 13).bind fun xr =>
  (math_bits_RotateLeft64 (wI .u64 (s.e0 + s.e1)) 32).bind fun xr1 =>
  (math_bits_RotateLeft64 s.e3 16).bind fun xr2 =>
  let t := wI .u64 (xr1 + (ixorI .u64 xr2 (wI .u64 (s.e2 + s.e3))))
  (math_bits_RotateLeft64 (ixorI .u64 xr2 (wI .u64 (s.e2 + s.e3))) 21).bind fun xr3 =>
  let t1 := wI .u64 ((wI .u64 (s.e2 + s.e3)) + (ixorI .u64 xr (wI .u64 (s.e0 + s.e1))))
  (math_bits_RotateLeft64 (ixorI .u64 xr (wI .u64 (s.e0 + s.e1))) 17).bind fun xr4 =>
  (math_bits_RotateLeft64 t1 32).bind fun xr5 =>
  some (Arr4_Int.mk t (ixorI .u64 xr4 t1) xr5 (ixorI .u64 xr3 t))
def post142 (x : Arr4_Int) (v : Value) (H : Hp) : Prop := v = .tuple ⟨[]⟩ ∧ aget H 0 = some (.cells [.int .u64 x.e0, .int .u64 x.e1, .int .u64 x.e2, .int .u64 x.e3])
def r142 (g : Arr4_Int → Option Arr4_Int) : List SArg → Option SRes
  | [.pt [.int .u64 a0_1, .int .u64 a0_2, .int .u64 a0_3, .int .u64 a0_4]] => match g (Arr4_Int.mk a0_1 a0_2 a0_3 a0_4) with | some x => some ⟨.tuple ⟨[]⟩, [], [[.int .u64 x.e0, .int .u64 x.e1, .int .u64 x.e2, .int .u64 x.e3]]⟩ | none => none
  | _ => none
def s142 (g : Arr4_Int → Option Arr4_Int) : Summ := ⟨[.pt 4], r142 g⟩
theorem r142_eq {g : Arr4_Int → Option Arr4_Int} {a0_1 : Int} {a0_2 : Int} {a0_3 : Int} {a0_4 : Int} {x : Arr4_Int} (hx : g (Arr4_Int.mk a0_1 a0_2 a0_3 a0_4) = some x) : (s142 g).run [.pt [.int .u64 a0_1, .int .u64 a0_2, .int .u64 a0_3, .int .u64 a0_4]] = some ⟨.tuple ⟨[]⟩, [], [[.int .u64 x.e0, .int .u64 x.e1, .int .u64 x.e2, .int .u64 x.e3]]⟩ := by
  show r142 g [.pt [.int .u64 a0_1, .int .u64 a0_2, .int .u64 a0_3, .int .u64 a0_4]] = _
  simp only [r142, hx]
abbrev sums142 (math_bits_RotateLeft64 : Int → Int → Option Int) : List (Nat × Summ) := [(151, s151 math_bits_RotateLeft64)]
theorem leads142 (math_bits_RotateLeft64 : Int → Int → Option Int) (hS : SumsOK Try.prog (aget (sums142 math_bits_RotateLeft64))) (s : Arr4_Int) (res : Arr4_Int) (h : sip_state_roundF math_bits_RotateLeft64 s = some res) :
    Leads Try.prog 142 1 ⟨⟨142, 114, [(0, .pointer (some ⟨0, 0, none⟩))], [.code k142_18], [], false, none⟩, [], [(0, .cells [.int .u64 s.e0, .int .u64 s.e1, .int .u64 s.e2, .int .u64 s.e3])], 1⟩ (fun v H _ => post142 res v H) := by
  unfold sip_state_roundF at h
  refine ev_ok tab_ok hS true 3000 ?_
  conv => whnf
  obtain ⟨xr, hy, h2⟩ := obind.elim h; clear h; have h := h2; clear h2
  refine sumK.introF [] (sumRun_of (aqs := [.v (.int .u64 s.e1), .v (.int .i64 13)]) (ra_cons rfl (ra_cons rfl ra_nil)) (r151_eq hy) rfl rfl rfl rfl) ?_
  conv => whnf
  obtain ⟨xr1, hy, h2⟩ := obind.elim h; clear h; have h := h2; clear h2
  refine sumK.introF [] (sumRun_of (aqs := [.v (.int .u64 (wI .u64 (s.e0 + s.e1))), .v (.int .i64 32)]) (ra_cons rfl (ra_cons rfl ra_nil)) (r151_eq hy) rfl rfl rfl rfl) ?_
  conv => whnf
  obtain ⟨xr2, hy, h2⟩ := obind.elim h; clear h; have h := h2; clear h2
  refine sumK.introF [] (sumRun_of (aqs := [.v (.int .u64 s.e3), .v (.int .i64 16)]) (ra_cons rfl (ra_cons rfl ra_nil)) (r151_eq hy) rfl rfl rfl rfl) ?_
  conv => whnf
  let t : Int := wI .u64 (xr1 + (ixorI .u64 xr2 (wI .u64 (s.e2 + s.e3))))
  obtain ⟨xr3, hy, h2⟩ := obind.elim h; clear h; have h := h2; clear h2
  refine sumK.introF [] (sumRun_of (aqs := [.v (.int .u64 (ixorI .u64 xr2 (wI .u64 (s.e2 + s.e3)))), .v (.int .i64 21)]) (ra_cons rfl (ra_cons rfl ra_nil)) (r151_eq hy) rfl rfl rfl rfl) ?_
  conv => whnf
  let t1 : Int := wI .u64 ((wI .u64 (s.e2 + s.e3)) + (ixorI .u64 xr (wI .u64 (s.e0 + s.e1))))
  obtain ⟨xr4, hy, h2⟩ := obind.elim h; clear h; have h := h2; clear h2
  refine sumK.introF [] (sumRun_of (aqs := [.v (.int .u64 (ixorI .u64 xr (wI .u64 (s.e0 + s.e1)))), .v (.int .i64 17)]) (ra_cons rfl (ra_cons rfl ra_nil)) (r151_eq hy) rfl rfl rfl rfl) ?_
  conv => whnf
  obtain ⟨xr5, hy, h2⟩ := obind.elim h; clear h; have h := h2; clear h2
  refine sumK.introF [] (sumRun_of (aqs := [.v (.int .u64 t1), .v (.int .i64 32)]) (ra_cons rfl (ra_cons rfl ra_nil)) (r151_eq hy) rfl rfl rfl rfl) ?_
  conv => whnf
  all_goals (cases h)
  all_goals exact ⟨rfl, rfl⟩
theorem ok142 (math_bits_RotateLeft64 : Int → Int → Option Int) (hS : SumsOK Try.prog (aget (sums142 math_bits_RotateLeft64))) : SumOK Try.prog 142 (s142 (sip_state_roundF math_bits_RotateLeft64)) := by
  refine SumOK.of_leads tab_ok (fun ar r ha hr => ?_) ⟨Try.f142, rfl, by decide, rfl⟩
  simp only [s142] at ha hr
  unfold r142 at hr
  split at hr <;> try (cases hr; done)
  split at hr <;> cases hr
  rename_i x h
  refine ⟨_, rfl, (leads142 math_bits_RotateLeft64 hS _ x h).mono fun v H t hp => ?_⟩
  obtain ⟨rfl, h0⟩ := hp
  exact Res.val rfl ⟨h0, rfl, trivial⟩
def sip_state_round : Arr4_Int → Option Arr4_Int := sip_state_roundF math_bits_RotateLeft64
theorem lift142 : SumOK Try.prog 142 (s142 sip_state_round) := ok142 math_bits_RotateLeft64 (SumsOK.of_tab ⟨lift151, trivial⟩)
end Go.Vm.Code

namespace Go.Vm.Code
open Go Go.Vm Go.Proofs
set_option maxRecDepth 100000
set_option maxHeartbeats 4000000
set_option linter.unusedVariables false

/-! (*cloakroom/sip.state).mix -/
def sip_state_mix_s1 (sip_state_round : Arr4_Int → Option Arr4_Int) (t : Int) (t7 : Int) (s1 : Int) (s2 : Int) (s3 : Int) (s4 : Int) : Option (Sum (Int × Int × Int × Int × Int) Arr4_Int) :=
  cond (decide (t7 < t))
    (
    (sip_state_round (Arr4_Int.mk s1 s2 s3 s4)).bind fun xr =>
    some (.inl (wI .i64 (t7 + 1), xr.e0, xr.e1, xr.e2, xr.e3)))
    (
    some (.inr (Arr4_Int.mk s1 s2 s3 s4)))
def sip_state_mixF (sip_state_round : Arr4_Int → Option Arr4_Int) (s : Arr4_Int) (rounds : Int) : Option Arr4_Int :=
  let t := if (if 64 < rounds then 64 else rounds) > 0 then if 64 < rounds then 64 else rounds else 0
  iter (fun st => sip_state_mix_s1 sip_state_round t st.1 st.2.1 st.2.2.1 st.2.2.2.1 st.2.2.2.2) FUEL (0, s.e0, s.e1, s.e2, s.e3)
def post122 (x : Arr4_Int) (v : Value) (H : Hp) : Prop := v = .tuple ⟨[]⟩ ∧ aget H 0 = some (.cells [.int .u64 x.e0, .int .u64 x.e1, .int .u64 x.e2, .int .u64 x.e3])
def r122 (g : Arr4_Int → Int → Option Arr4_Int) : List SArg → Option SRes
  | [.pt [.int .u64 a0_1, .int .u64 a0_2, .int .u64 a0_3, .int .u64 a0_4], .v (.int .i64 a1_1)] => match g (Arr4_Int.mk a0_1 a0_2 a0_3 a0_4) a1_1 with | some x => some ⟨.tuple ⟨[]⟩, [], [[.int .u64 x.e0, .int .u64 x.e1, .int .u64 x.e2, .int .u64 x.e3]]⟩ | none => none
  | _ => none
def s122 (g : Arr4_Int → Int → Option Arr4_Int) : Summ := ⟨[.pt 4, .v], r122 g⟩
theorem r122_eq {g : Arr4_Int → Int → Option Arr4_Int} {a0_1 : Int} {a0_2 : Int} {a0_3 : Int} {a0_4 : Int} {a1_1 : Int} {x : Arr4_Int} (hx : g (Arr4_Int.mk a0_1 a0_2 a0_3 a0_4) a1_1 = some x) : (s122 g).run [.pt [.int .u64 a0_1, .int .u64 a0_2, .int .u64 a0_3, .int .u64 a0_4], .v (.int .i64 a1_1)] = some ⟨.tuple ⟨[]⟩, [], [[.int .u64 x.e0, .int .u64 x.e1, .int .u64 x.e2, .int .u64 x.e3]]⟩ := by
  show r122 g [.pt [.int .u64 a0_1, .int .u64 a0_2, .int .u64 a0_3, .int .u64 a0_4], .v (.int .i64 a1_1)] = _
  simp only [r122, hx]
abbrev sums122 (sip_state_round : Arr4_Int → Option Arr4_Int) : List (Nat × Summ) := [(142, s142 sip_state_round)]
def head122_1 (t : Int) (t7 : Int) (s1 : Int) (s2 : Int) (s3 : Int) (s4 : Int) : VM :=
  ⟨⟨122, 12, [(0, .pointer (some ⟨0, 0, none⟩)), (6, .int .i64 t), (7, .int .i64 t7)], [.code k122_8, .inLoop k122_8, .inBlock 0], [], false, none⟩, [], [(0, .cells [.int .u64 s1, .int .u64 s2, .int .u64 s3, .int .u64 s4])], 1⟩
theorem loop122_1 (sip_state_round : Arr4_Int → Option Arr4_Int) (hS : SumsOK Try.prog (aget (sums122 sip_state_round))) (t : Int) (res : Arr4_Int) : ∀ fuel (st : Int × Int × Int × Int × Int) (o : Arr4_Int), iter (fun st => sip_state_mix_s1 sip_state_round t st.1 st.2.1 st.2.2.1 st.2.2.2.1 st.2.2.2.2) fuel st = some o → (o = res) →
    Leads Try.prog 122 1 (head122_1 t st.1 st.2.1 st.2.2.1 st.2.2.2.1 st.2.2.2.2) (fun v H _ => post122 res v H) := by
  intro fuel st o h hc
  refine iter_leads (head := fun st => head122_1 t st.1 st.2.1 st.2.2.1 st.2.2.2.1 st.2.2.2.2) (C := fun o => (o = res)) ?_ fuel st o h hc
  clear h hc o st fuel
  intro st o h hc
  obtain ⟨t7, s1, s2, s3, s4⟩ := st
  replace h : sip_state_mix_s1 sip_state_round t t7 s1 s2 s3 s4 = some o := h
  show Leads Try.prog 122 1 (head122_1 t t7 s1 s2 s3 s4) (fun v H _ => post122 res v H)
  unfold sip_state_mix_s1 at h
  refine ev_ok tab_ok hS true 3000 ?_
  conv => whnf
  refine br.h2 h ?_ ?_ ?_
  · rfl
  · clear h; intro hb h; conv => whnf
    all_goals (cases h; cases hc)
    all_goals exact ⟨rfl, rfl⟩
  clear h; intro hb h; conv => whnf
  obtain ⟨xr, hy, h2⟩ := obind.elim h; clear h; have h := h2; clear h2
  refine sumK.introF [0] (sumRun_of (aqs := [.pt [.int .u64 s1, .int .u64 s2, .int .u64 s3, .int .u64 s4]]) (ra_cons rfl ra_nil) (r142_eq hy) rfl rfl rfl rfl) ?_
  conv => whnf
  cases h; simp only [Sum.elim_inl, Sum.elim_inr, head122_1] at hc
  refine Leads.re hc [(0, 0)] rfl ?_ ?_ <;> (repeat' first | exact trivial | refine ⟨⟨_, rfl, rfl⟩, ?_⟩ | refine ⟨⟨_, _, rfl, rfl, .rowF (vI_flat _ _) id⟩, ?_⟩ | refine ⟨⟨_, _, rfl, rfl, .rowF (vS_flat _) id⟩, ?_⟩ | refine ⟨⟨_, _, rfl, rfl, .rowF (vB_flat _) id⟩, ?_⟩ | refine ⟨⟨_, _, rfl, rfl, .cells rfl⟩, ?_⟩ | refine ⟨⟨_, _, rfl, rfl, .row rfl id⟩, ?_⟩ | refine ⟨⟨_, _, rfl, rfl, .cr rfl⟩, ?_⟩ | refine ⟨⟨_, _, rfl, rfl, .rc rfl⟩, ?_⟩ | refine ⟨⟨_, _, rfl, rfl, .marks⟩, ?_⟩ | refine ⟨⟨_, _, rfl, rfl, .siter _ _⟩, ?_⟩ | refine ⟨⟨_, _, rfl, rfl, .loop rfl rfl rfl rfl (by repeat' first | exact trivial | refine ⟨rfl, ?_⟩) rfl rfl rfl rfl⟩, ?_⟩)
theorem leads122 (sip_state_round : Arr4_Int → Option Arr4_Int) (hS : SumsOK Try.prog (aget (sums122 sip_state_round))) (s : Arr4_Int) (rounds : Int) (res : Arr4_Int) (h : sip_state_mixF sip_state_round s rounds = some res) :
    Leads Try.prog 122 1 ⟨⟨122, 12, [(0, .pointer (some ⟨0, 0, none⟩)), (1, .int .i64 rounds)], [.code k122_11], [], false, none⟩, [], [(0, .cells [.int .u64 s.e0, .int .u64 s.e1, .int .u64 s.e2, .int .u64 s.e3])], 1⟩ (fun v H _ => post122 res v H) := by
  unfold sip_state_mixF at h
  refine ev_ok tab_ok hS true 3000 ?_
  conv => whnf
  let t : Int := if (if 64 < rounds then 64 else rounds) > 0 then if 64 < rounds then 64 else rounds else 0
  have hl := loop122_1 sip_state_round hS _ res _ _ _ h rfl; simp only [head122_1] at hl
  refine Leads.re hl [(0, 0)] rfl ?_ ?_ <;> (repeat' first | exact trivial | refine ⟨⟨_, rfl, rfl⟩, ?_⟩ | refine ⟨⟨_, _, rfl, rfl, .rowF (vI_flat _ _) id⟩, ?_⟩ | refine ⟨⟨_, _, rfl, rfl, .rowF (vS_flat _) id⟩, ?_⟩ | refine ⟨⟨_, _, rfl, rfl, .rowF (vB_flat _) id⟩, ?_⟩ | refine ⟨⟨_, _, rfl, rfl, .cells rfl⟩, ?_⟩ | refine ⟨⟨_, _, rfl, rfl, .row rfl id⟩, ?_⟩ | refine ⟨⟨_, _, rfl, rfl, .cr rfl⟩, ?_⟩ | refine ⟨⟨_, _, rfl, rfl, .rc rfl⟩, ?_⟩ | refine ⟨⟨_, _, rfl, rfl, .marks⟩, ?_⟩ | refine ⟨⟨_, _, rfl, rfl, .siter _ _⟩, ?_⟩ | refine ⟨⟨_, _, rfl, rfl, .loop rfl rfl rfl rfl (by repeat' first | exact trivial | refine ⟨rfl, ?_⟩) rfl rfl rfl rfl⟩, ?_⟩)
theorem ok122 (sip_state_round : Arr4_Int → Option Arr4_Int) (hS : SumsOK Try.prog (aget (sums122 sip_state_round))) : SumOK Try.prog 122 (s122 (sip_state_mixF sip_state_round)) := by
  refine SumOK.of_leads tab_ok (fun ar r ha hr => ?_) ⟨Try.f122, rfl, by decide, rfl⟩
  simp only [s122] at ha hr
  unfold r122 at hr
  split at hr <;> try (cases hr; done)
  split at hr <;> cases hr
  rename_i x h
  refine ⟨_, rfl, (leads122 sip_state_round hS _ _ x h).mono fun v H t hp => ?_⟩
  obtain ⟨rfl, h0⟩ := hp
  exact Res.val rfl ⟨h0, rfl, trivial⟩
def sip_state_mix : Arr4_Int → Int → Option Arr4_Int := sip_state_mixF sip_state_round
theorem lift122 : SumOK Try.prog 122 (s122 sip_state_mix) := ok122 sip_state_round (SumsOK.of_tab ⟨lift142, trivial⟩)
end Go.Vm.Code

namespace Go.Vm.Code
open Go Go.Vm Go.Proofs
set_option maxRecDepth 100000
set_option maxHeartbeats 4000000
set_option linter.unusedVariables false

/-! (*cloakroom/sip.state).take -/
def sip_state_takeF (sip_state_mix : Arr4_Int → Int → Option Arr4_Int) (s : Arr4_Int) (m : Int) : Option Arr4_Int :=
  (sip_state_mix (Arr4_Int.mk s.e0 s.e1 s.e2 (ixorI .u64 s.e3 m)) 2).bind fun m1 =>
  some (Arr4_Int.mk (ixorI .u64 m1.e0 m) m1.e1 m1.e2 m1.e3)
def post118 (x : Arr4_Int) (v : Value) (H : Hp) : Prop := v = .tuple ⟨[]⟩ ∧ aget H 0 = some (.cells [.int .u64 x.e0, .int .u64 x.e1, .int .u64 x.e2, .int .u64 x.e3])
def r118 (g : Arr4_Int → Int → Option Arr4_Int) : List SArg → Option SRes
  | [.pt [.int .u64 a0_1, .int .u64 a0_2, .int .u64 a0_3, .int .u64 a0_4], .v (.int .u64 a1_1)] => match g (Arr4_Int.mk a0_1 a0_2 a0_3 a0_4) a1_1 with | some x => some ⟨.tuple ⟨[]⟩, [], [[.int .u64 x.e0, .int .u64 x.e1, .int .u64 x.e2, .int .u64 x.e3]]⟩ | none => none
  | _ => none
def s118 (g : Arr4_Int → Int → Option Arr4_Int) : Summ := ⟨[.pt 4, .v], r118 g⟩
theorem r118_eq {g : Arr4_Int → Int → Option Arr4_Int} {a0_1 : Int} {a0_2 : Int} {a0_3 : Int} {a0_4 : Int} {a1_1 : Int} {x : Arr4_Int} (hx : g (Arr4_Int.mk a0_1 a0_2 a0_3 a0_4) a1_1 = some x) : (s118 g).run [.pt [.int .u64 a0_1, .int .u64 a0_2, .int .u64 a0_3, .int .u64 a0_4], .v (.int .u64 a1_1)] = some ⟨.tuple ⟨[]⟩, [], [[.int .u64 x.e0, .int .u64 x.e1, .int .u64 x.e2, .int .u64 x.e3]]⟩ := by
  show r118 g [.pt [.int .u64 a0_1, .int .u64 a0_2, .int .u64 a0_3, .int .u64 a0_4], .v (.int .u64 a1_1)] = _
  simp only [r118, hx]
abbrev sums118 (sip_state_mix : Arr4_Int → Int → Option Arr4_Int) : List (Nat × Summ) := [(122, s122 sip_state_mix)]
theorem leads118 (sip_state_mix : Arr4_Int → Int → Option Arr4_Int) (hS : SumsOK Try.prog (aget (sums118 sip_state_mix))) (s : Arr4_Int) (m : Int) (res : Arr4_Int) (h : sip_state_takeF sip_state_mix s m = some res) :
    Leads Try.prog 118 1 ⟨⟨118, 22, [(0, .pointer (some ⟨0, 0, none⟩)), (1, .int .u64 m)], [.code k118_4], [], false, none⟩, [], [(0, .cells [.int .u64 s.e0, .int .u64 s.e1, .int .u64 s.e2, .int .u64 s.e3])], 1⟩ (fun v H _ => post118 res v H) := by
  unfold sip_state_takeF at h
  refine ev_ok tab_ok hS true 3000 ?_
  conv => whnf
  obtain ⟨m1, hy, h2⟩ := obind.elim h; clear h; have h := h2; clear h2
  refine sumK.introF [0] (sumRun_of (aqs := [.pt [.int .u64 s.e0, .int .u64 s.e1, .int .u64 s.e2, .int .u64 (ixorI .u64 s.e3 m)], .v (.int .i64 2)]) (ra_cons rfl (ra_cons rfl ra_nil)) (r122_eq hy) rfl rfl rfl rfl) ?_
  conv => whnf
  all_goals (cases h)
  all_goals exact ⟨rfl, rfl⟩
theorem ok118 (sip_state_mix : Arr4_Int → Int → Option Arr4_Int) (hS : SumsOK Try.prog (aget (sums118 sip_state_mix))) : SumOK Try.prog 118 (s118 (sip_state_takeF sip_state_mix)) := by
  refine SumOK.of_leads tab_ok (fun ar r ha hr => ?_) ⟨Try.f118, rfl, by decide, rfl⟩
  simp only [s118] at ha hr
  unfold r118 at hr
  split at hr <;> try (cases hr; done)
  split at hr <;> cases hr
  rename_i x h
  refine ⟨_, rfl, (leads118 sip_state_mix hS _ _ x h).mono fun v H t hp => ?_⟩
  obtain ⟨rfl, h0⟩ := hp
  exact Res.val rfl ⟨h0, rfl, trivial⟩
def sip_state_take : Arr4_Int → Int → Option Arr4_Int := sip_state_takeF sip_state_mix
theorem lift118 : SumOK Try.prog 118 (s118 sip_state_take) := ok118 sip_state_mix (SumsOK.of_tab ⟨lift122, trivial⟩)
end Go.Vm.Code

namespace Go.Vm.Code
open Go Go.Vm Go.Proofs
set_option maxRecDepth 100000
set_option maxHeartbeats 4000000
set_option linter.unusedVariables false

/-! (*cloakroom/sip.Hasher).Write -/
def sip_Hasher_Write_s1 (sip_state_take : Arr4_Int → Int → Option Arr4_Int) (ha0 : sip_Hasher) (s : List UInt8) (t18 : Int) (xh : Int) (xh1 : Int) (xh2 : Int) (xh3 : Int) (xh4 : Int) (xh5 : Int) : Option (Sum (Int × Int × Int × Int × Int × Int × Int) sip_Hasher) :=
  cond (decide (t18 < (s.length : Int)))
    (
    oreq (decide ((0 : Int) ≤ t18 ∧ t18 < (s.length : Int))) <|
    ((bI s)[t18.toNat]?).bind fun (e : Int) =>
    oreq (decide (0 ≤ (wI .i64 (8 * (xh5.tmod 8))))) <|
    let t := wI .u64 ((wI .u64 e) * 2 ^ (min (wI .i64 (8 * (xh5.tmod 8))).toNat 64))
    cond (((wI .i64 (xh5 + 1)).tmod 8) == 0)
      (
      (sip_state_take (Arr4_Int.mk xh xh1 xh2 xh3) (iorI .u64 xh4 t)).bind fun t1 =>
      some (.inl (wI .i64 (t18 + 1), t1.e0, t1.e1, t1.e2, t1.e3, 0, wI .i64 (xh5 + 1))))
      (
      some (.inl (wI .i64 (t18 + 1), xh, xh1, xh2, xh3, iorI .u64 xh4 t, wI .i64 (xh5 + 1)))))
    (
    some (.inr (sip_Hasher.mk ha0.made (Arr4_Int.mk xh xh1 xh2 xh3) xh4 xh5)))
def sip_Hasher_WriteF (sip_state_take : Arr4_Int → Int → Option Arr4_Int) (ha0 : sip_Hasher) (s : List UInt8) : Option sip_Hasher :=
  cond (!ha0.made)
    (
    some (ha0))
    (
    iter (fun st => sip_Hasher_Write_s1 sip_state_take ha0 s st.1 st.2.1 st.2.2.1 st.2.2.2.1 st.2.2.2.2.1 st.2.2.2.2.2.1 st.2.2.2.2.2.2) FUEL (0, ha0.s.e0, ha0.s.e1, ha0.s.e2, ha0.s.e3, ha0.last, ha0.count))
def post95 (x : sip_Hasher) (v : Value) (H : Hp) : Prop := v = .tuple ⟨[]⟩ ∧ aget H 0 = some (.cells [.bool x.made, .int .u64 x.s.e0, .int .u64 x.s.e1, .int .u64 x.s.e2, .int .u64 x.s.e3, .int .u64 x.last, .int .i64 x.count])
def r95 (g : sip_Hasher → (List UInt8) → Option sip_Hasher) : List SArg → Option SRes
  | [.pt [.bool a0_1, .int .u64 a0_2, .int .u64 a0_3, .int .u64 a0_4, .int .u64 a0_5, .int .u64 a0_6, .int .i64 a0_7], .v (.string ⟨⟨a1_1⟩⟩)] => match g (sip_Hasher.mk a0_1 (Arr4_Int.mk a0_2 a0_3 a0_4 a0_5) a0_6 a0_7) a1_1 with | some x => some ⟨.tuple ⟨[]⟩, [], [[.bool x.made, .int .u64 x.s.e0, .int .u64 x.s.e1, .int .u64 x.s.e2, .int .u64 x.s.e3, .int .u64 x.last, .int .i64 x.count]]⟩ | none => none
  | _ => none
def s95 (g : sip_Hasher → (List UInt8) → Option sip_Hasher) : Summ := ⟨[.pt 7, .v], r95 g⟩
theorem r95_eq {g : sip_Hasher → (List UInt8) → Option sip_Hasher} {a0_1 : Bool} {a0_2 : Int} {a0_3 : Int} {a0_4 : Int} {a0_5 : Int} {a0_6 : Int} {a0_7 : Int} {a1_1 : List UInt8} {x : sip_Hasher} (hx : g (sip_Hasher.mk a0_1 (Arr4_Int.mk a0_2 a0_3 a0_4 a0_5) a0_6 a0_7) a1_1 = some x) : (s95 g).run [.pt [.bool a0_1, .int .u64 a0_2, .int .u64 a0_3, .int .u64 a0_4, .int .u64 a0_5, .int .u64 a0_6, .int .i64 a0_7], .v (.string ⟨⟨a1_1⟩⟩)] = some ⟨.tuple ⟨[]⟩, [], [[.bool x.made, .int .u64 x.s.e0, .int .u64 x.s.e1, .int .u64 x.s.e2, .int .u64 x.s.e3, .int .u64 x.last, .int .i64 x.count]]⟩ := by
  show r95 g [.pt [.bool a0_1, .int .u64 a0_2, .int .u64 a0_3, .int .u64 a0_4, .int .u64 a0_5, .int .u64 a0_6, .int .i64 a0_7], .v (.string ⟨⟨a1_1⟩⟩)] = _
  simp only [r95, hx]
abbrev sums95 (sip_state_take : Arr4_Int → Int → Option Arr4_Int) : List (Nat × Summ) := [(118, s118 sip_state_take)]
def head95_1 (ha0 : sip_Hasher) (s : List UInt8) (t18 : Int) (xh : Int) (xh1 : Int) (xh2 : Int) (xh3 : Int) (xh4 : Int) (xh5 : Int) : VM :=
  ⟨⟨95, 63, [(0, .pointer (some ⟨0, 0, none⟩)), (16, .slice (some ⟨1, 0, none⟩) s.length 1), (17, .int .i64 (s.length : Int)), (18, .int .i64 t18)], [.code k95_22, .inLoop k95_22, .inBlock 0], [], false, none⟩, [], [(0, .cells [.bool ha0.made, .int .u64 xh, .int .u64 xh1, .int .u64 xh2, .int .u64 xh3, .int .u64 xh4, .int .i64 xh5]), (1, .row true (vI .u8 (bI s)))], 2⟩
theorem loop95_1 (sip_state_take : Arr4_Int → Int → Option Arr4_Int) (hS : SumsOK Try.prog (aget (sums95 sip_state_take))) (ha0 : sip_Hasher) (s : List UInt8) (res : sip_Hasher) : ∀ fuel (st : Int × Int × Int × Int × Int × Int × Int) (o : sip_Hasher), iter (fun st => sip_Hasher_Write_s1 sip_state_take ha0 s st.1 st.2.1 st.2.2.1 st.2.2.2.1 st.2.2.2.2.1 st.2.2.2.2.2.1 st.2.2.2.2.2.2) fuel st = some o → (o = res) →
    Leads Try.prog 95 1 (head95_1 ha0 s st.1 st.2.1 st.2.2.1 st.2.2.2.1 st.2.2.2.2.1 st.2.2.2.2.2.1 st.2.2.2.2.2.2) (fun v H _ => post95 res v H) := by
  intro fuel st o h hc
  refine iter_leads (head := fun st => head95_1 ha0 s st.1 st.2.1 st.2.2.1 st.2.2.2.1 st.2.2.2.2.1 st.2.2.2.2.2.1 st.2.2.2.2.2.2) (C := fun o => (o = res)) ?_ fuel st o h hc
  clear h hc o st fuel
  intro st o h hc
  obtain ⟨t18, xh, xh1, xh2, xh3, xh4, xh5⟩ := st
  replace h : sip_Hasher_Write_s1 sip_state_take ha0 s t18 xh xh1 xh2 xh3 xh4 xh5 = some o := h
  show Leads Try.prog 95 1 (head95_1 ha0 s t18 xh xh1 xh2 xh3 xh4 xh5) (fun v H _ => post95 res v H)
  unfold sip_Hasher_Write_s1 at h
  refine ev_ok tab_ok hS true 3000 ?_
  conv => whnf
  refine br.h2 h ?_ ?_ ?_
  · rfl
  · clear h; intro hb h; conv => whnf
    all_goals (cases h; cases hc)
    all_goals exact ⟨rfl, rfl⟩
  clear h; intro hb h; conv => whnf
  replace h := oreq.elim h; have hb := h.1; replace h := h.2
  first | (refine req.intro hb ?_; conv => whnf) | skip
  obtain ⟨e, hy, h2⟩ := obind.elim h; clear h; have h := h2; clear h2
  refine rd.I hy (by first | rfl | (rw [Nat.zero_add, Nat.mul_one]; done) | omega) ?_
  conv => whnf
  replace h := oreq.elim h; have hb := h.1; replace h := h.2
  first | (refine req.intro hb ?_; conv => whnf) | skip
  let t : Int := wI .u64 ((wI .u64 e) * 2 ^ (min (wI .i64 (8 * (xh5.tmod 8))).toNat 64))
  refine br.h2 h ?_ ?_ ?_
  · rfl
  · clear h; intro hb h; conv => whnf
    cases h; simp only [Sum.elim_inl, Sum.elim_inr, head95_1] at hc
    refine Leads.re hc [(0, 0), (1, 1)] rfl ?_ ?_ <;> (repeat' first | exact trivial | refine ⟨⟨_, rfl, rfl⟩, ?_⟩ | refine ⟨⟨_, _, rfl, rfl, .rowF (vI_flat _ _) id⟩, ?_⟩ | refine ⟨⟨_, _, rfl, rfl, .rowF (vS_flat _) id⟩, ?_⟩ | refine ⟨⟨_, _, rfl, rfl, .rowF (vB_flat _) id⟩, ?_⟩ | refine ⟨⟨_, _, rfl, rfl, .cells rfl⟩, ?_⟩ | refine ⟨⟨_, _, rfl, rfl, .row rfl id⟩, ?_⟩ | refine ⟨⟨_, _, rfl, rfl, .cr rfl⟩, ?_⟩ | refine ⟨⟨_, _, rfl, rfl, .rc rfl⟩, ?_⟩ | refine ⟨⟨_, _, rfl, rfl, .marks⟩, ?_⟩ | refine ⟨⟨_, _, rfl, rfl, .siter _ _⟩, ?_⟩ | refine ⟨⟨_, _, rfl, rfl, .loop rfl rfl rfl rfl (by repeat' first | exact trivial | refine ⟨rfl, ?_⟩) rfl rfl rfl rfl⟩, ?_⟩)
  clear h; intro hb h; conv => whnf
  obtain ⟨t1, hy, h2⟩ := obind.elim h; clear h; have h := h2; clear h2
  refine sumK.introF [0] (sumRun_of (aqs := [.pt [.int .u64 xh, .int .u64 xh1, .int .u64 xh2, .int .u64 xh3], .v (.int .u64 (iorI .u64 xh4 t))]) (ra_cons rfl (ra_cons rfl ra_nil)) (r118_eq hy) rfl rfl rfl rfl) ?_
  conv => whnf
  cases h; simp only [Sum.elim_inl, Sum.elim_inr, head95_1] at hc
  refine Leads.re hc [(0, 0), (1, 1)] rfl ?_ ?_ <;> (repeat' first | exact trivial | refine ⟨⟨_, rfl, rfl⟩, ?_⟩ | refine ⟨⟨_, _, rfl, rfl, .rowF (vI_flat _ _) id⟩, ?_⟩ | refine ⟨⟨_, _, rfl, rfl, .rowF (vS_flat _) id⟩, ?_⟩ | refine ⟨⟨_, _, rfl, rfl, .rowF (vB_flat _) id⟩, ?_⟩ | refine ⟨⟨_, _, rfl, rfl, .cells rfl⟩, ?_⟩ | refine ⟨⟨_, _, rfl, rfl, .row rfl id⟩, ?_⟩ | refine ⟨⟨_, _, rfl, rfl, .cr rfl⟩, ?_⟩ | refine ⟨⟨_, _, rfl, rfl, .rc rfl⟩, ?_⟩ | refine ⟨⟨_, _, rfl, rfl, .marks⟩, ?_⟩ | refine ⟨⟨_, _, rfl, rfl, .siter _ _⟩, ?_⟩ | refine ⟨⟨_, _, rfl, rfl, .loop rfl rfl rfl rfl (by repeat' first | exact trivial | refine ⟨rfl, ?_⟩) rfl rfl rfl rfl⟩, ?_⟩)
theorem leads95 (sip_state_take : Arr4_Int → Int → Option Arr4_Int) (hS : SumsOK Try.prog (aget (sums95 sip_state_take))) (ha0 : sip_Hasher) (s : List UInt8) (res : sip_Hasher) (h : sip_Hasher_WriteF sip_state_take ha0 s = some res) :
    Leads Try.prog 95 1 ⟨⟨95, 63, [(0, .pointer (some ⟨0, 0, none⟩)), (1, .string ⟨⟨s⟩⟩)], [.code k95_26], [], false, none⟩, [], [(0, .cells [.bool ha0.made, .int .u64 ha0.s.e0, .int .u64 ha0.s.e1, .int .u64 ha0.s.e2, .int .u64 ha0.s.e3, .int .u64 ha0.last, .int .i64 ha0.count])], 1⟩ (fun v H _ => post95 res v H) := by
  unfold sip_Hasher_WriteF at h
  refine ev_ok tab_ok hS true 3000 ?_
  conv => whnf
  refine br.h h ?_ ?_ ?_
  · rfl
  · clear h; intro hb h; conv => whnf
    all_goals (cases h)
    all_goals exact ⟨rfl, rfl⟩
  clear h; intro hb h; conv => whnf
  refine pk_s2b ?_
  conv => whnf
  have hl := loop95_1 sip_state_take hS _ _ res _ _ _ h rfl; simp only [head95_1] at hl
  refine Leads.re hl [(0, 0), (1, 1)] rfl ?_ ?_ <;> (repeat' first | exact trivial | refine ⟨⟨_, rfl, rfl⟩, ?_⟩ | refine ⟨⟨_, _, rfl, rfl, .rowF (vI_flat _ _) id⟩, ?_⟩ | refine ⟨⟨_, _, rfl, rfl, .rowF (vS_flat _) id⟩, ?_⟩ | refine ⟨⟨_, _, rfl, rfl, .rowF (vB_flat _) id⟩, ?_⟩ | refine ⟨⟨_, _, rfl, rfl, .cells rfl⟩, ?_⟩ | refine ⟨⟨_, _, rfl, rfl, .row rfl id⟩, ?_⟩ | refine ⟨⟨_, _, rfl, rfl, .cr rfl⟩, ?_⟩ | refine ⟨⟨_, _, rfl, rfl, .rc rfl⟩, ?_⟩ | refine ⟨⟨_, _, rfl, rfl, .marks⟩, ?_⟩ | refine ⟨⟨_, _, rfl, rfl, .siter _ _⟩, ?_⟩ | refine ⟨⟨_, _, rfl, rfl, .loop rfl rfl rfl rfl (by repeat' first | exact trivial | refine ⟨rfl, ?_⟩) rfl rfl rfl rfl⟩, ?_⟩)
theorem ok95 (sip_state_take : Arr4_Int → Int → Option Arr4_Int) (hS : SumsOK Try.prog (aget (sums95 sip_state_take))) : SumOK Try.prog 95 (s95 (sip_Hasher_WriteF sip_state_take)) := by
  refine SumOK.of_leads tab_ok (fun ar r ha hr => ?_) ⟨Try.f95, rfl, by decide, rfl⟩
  simp only [s95] at ha hr
  unfold r95 at hr
  split at hr <;> try (cases hr; done)
  split at hr <;> cases hr
  rename_i x h
  refine ⟨_, rfl, (leads95 sip_state_take hS _ _ x h).mono fun v H t hp => ?_⟩
  obtain ⟨rfl, h0⟩ := hp
  exact Res.val rfl ⟨h0, rfl, trivial⟩
def sip_Hasher_Write : sip_Hasher → (List UInt8) → Option sip_Hasher := sip_Hasher_WriteF sip_state_take
theorem lift95 : SumOK Try.prog 95 (s95 sip_Hasher_Write) := ok95 sip_state_take (SumsOK.of_tab ⟨lift118, trivial⟩)
end Go.Vm.Code

namespace Go.Vm.Code
open Go Go.Vm Go.Proofs
set_option maxRecDepth 100000
set_option maxHeartbeats 4000000
set_option linter.unusedVariables false

/-! (*cloakroom/sip.Hasher).Sum -/
def sip_Hasher_SumF (sip_state_mix : Arr4_Int → Int → Option Arr4_Int) (sip_state_take : Arr4_Int → Int → Option Arr4_Int) (ha0 : sip_Hasher) : Option (Int × sip_Hasher) :=
  cond (!ha0.made)
    (
    some ((0, ha0)))
    (
    let t := iorI .u64 ha0.last (wI .u64 ((wI .u64 ha0.count) * 2 ^ 56))
    (sip_state_take ha0.s t).bind fun t1 =>
    (sip_state_mix (Arr4_Int.mk t1.e0 t1.e1 (ixorI .u64 t1.e2 255) t1.e3) 4).bind fun m =>
    let t2 := ixorI .u64 (ixorI .u64 (ixorI .u64 m.e0 m.e1) m.e2) m.e3
    some ((t2, ha0)))
def post97 (x : Int × sip_Hasher) (v : Value) (H : Hp) : Prop := v = .int .u64 x.1 ∧ aget H 0 = some (.cells [.bool x.2.made, .int .u64 x.2.s.e0, .int .u64 x.2.s.e1, .int .u64 x.2.s.e2, .int .u64 x.2.s.e3, .int .u64 x.2.last, .int .i64 x.2.count])
def r97 (g : sip_Hasher → Option (Int × sip_Hasher)) : List SArg → Option SRes
  | [.pt [.bool a0_1, .int .u64 a0_2, .int .u64 a0_3, .int .u64 a0_4, .int .u64 a0_5, .int .u64 a0_6, .int .i64 a0_7]] => match g (sip_Hasher.mk a0_1 (Arr4_Int.mk a0_2 a0_3 a0_4 a0_5) a0_6 a0_7) with | some x => some ⟨.int .u64 x.1, [], [[.bool x.2.made, .int .u64 x.2.s.e0, .int .u64 x.2.s.e1, .int .u64 x.2.s.e2, .int .u64 x.2.s.e3, .int .u64 x.2.last, .int .i64 x.2.count]]⟩ | none => none
  | _ => none
def s97 (g : sip_Hasher → Option (Int × sip_Hasher)) : Summ := ⟨[.pt 7], r97 g⟩
theorem r97_eq {g : sip_Hasher → Option (Int × sip_Hasher)} {a0_1 : Bool} {a0_2 : Int} {a0_3 : Int} {a0_4 : Int} {a0_5 : Int} {a0_6 : Int} {a0_7 : Int} {x : Int × sip_Hasher} (hx : g (sip_Hasher.mk a0_1 (Arr4_Int.mk a0_2 a0_3 a0_4 a0_5) a0_6 a0_7) = some x) : (s97 g).run [.pt [.bool a0_1, .int .u64 a0_2, .int .u64 a0_3, .int .u64 a0_4, .int .u64 a0_5, .int .u64 a0_6, .int .i64 a0_7]] = some ⟨.int .u64 x.1, [], [[.bool x.2.made, .int .u64 x.2.s.e0, .int .u64 x.2.s.e1, .int .u64 x.2.s.e2, .int .u64 x.2.s.e3, .int .u64 x.2.last, .int .i64 x.2.count]]⟩ := by
  show r97 g [.pt [.bool a0_1, .int .u64 a0_2, .int .u64 a0_3, .int .u64 a0_4, .int .u64 a0_5, .int .u64 a0_6, .int .i64 a0_7]] = _
  simp only [r97, hx]
abbrev sums97 (sip_state_mix : Arr4_Int → Int → Option Arr4_Int) (sip_state_take : Arr4_Int → Int → Option Arr4_Int) : List (Nat × Summ) := [(122, s122 sip_state_mix), (118, s118 sip_state_take)]
theorem leads97 (sip_state_mix : Arr4_Int → Int → Option Arr4_Int) (sip_state_take : Arr4_Int → Int → Option Arr4_Int) (hS : SumsOK Try.prog (aget (sums97 sip_state_mix sip_state_take))) (ha0 : sip_Hasher) (res : Int × sip_Hasher) (h : sip_Hasher_SumF sip_state_mix sip_state_take ha0 = some res) :
    Leads Try.prog 97 1 ⟨⟨97, 45, [(0, .pointer (some ⟨0, 0, none⟩))], [.code k97_17], [], false, none⟩, [], [(0, .cells [.bool ha0.made, .int .u64 ha0.s.e0, .int .u64 ha0.s.e1, .int .u64 ha0.s.e2, .int .u64 ha0.s.e3, .int .u64 ha0.last, .int .i64 ha0.count])], 1⟩ (fun v H _ => post97 res v H) := by
  unfold sip_Hasher_SumF at h
  refine ev_ok tab_ok hS true 3000 ?_
  conv => whnf
  refine br.h h ?_ ?_ ?_
  · rfl
  · clear h; intro hb h; conv => whnf
    all_goals (cases h)
    all_goals exact ⟨rfl, rfl⟩
  clear h; intro hb h; conv => whnf
  let t : Int := iorI .u64 ha0.last (wI .u64 ((wI .u64 ha0.count) * 2 ^ 56))
  obtain ⟨t1, hy, h2⟩ := obind.elim h; clear h; have h := h2; clear h2
  refine sumK.introF [1] (sumRun_of (aqs := [.pt [.int .u64 ha0.s.e0, .int .u64 ha0.s.e1, .int .u64 ha0.s.e2, .int .u64 ha0.s.e3], .v (.int .u64 t)]) (ra_cons rfl (ra_cons rfl ra_nil)) (r118_eq hy) rfl rfl rfl rfl) ?_
  conv => whnf
  obtain ⟨m, hy, h2⟩ := obind.elim h; clear h; have h := h2; clear h2
  refine sumK.introF [1] (sumRun_of (aqs := [.pt [.int .u64 t1.e0, .int .u64 t1.e1, .int .u64 (ixorI .u64 t1.e2 255), .int .u64 t1.e3], .v (.int .i64 4)]) (ra_cons rfl (ra_cons rfl ra_nil)) (r122_eq hy) rfl rfl rfl rfl) ?_
  conv => whnf
  let t2 : Int := ixorI .u64 (ixorI .u64 (ixorI .u64 m.e0 m.e1) m.e2) m.e3
  all_goals (cases h)
  all_goals exact ⟨rfl, rfl⟩
theorem ok97 (sip_state_mix : Arr4_Int → Int → Option Arr4_Int) (sip_state_take : Arr4_Int → Int → Option Arr4_Int) (hS : SumsOK Try.prog (aget (sums97 sip_state_mix sip_state_take))) : SumOK Try.prog 97 (s97 (sip_Hasher_SumF sip_state_mix sip_state_take)) := by
  refine SumOK.of_leads tab_ok (fun ar r ha hr => ?_) ⟨Try.f97, rfl, by decide, rfl⟩
  simp only [s97] at ha hr
  unfold r97 at hr
  split at hr <;> try (cases hr; done)
  split at hr <;> cases hr
  rename_i x h
  refine ⟨_, rfl, (leads97 sip_state_mix sip_state_take hS _ x h).mono fun v H t hp => ?_⟩
  obtain ⟨rfl, h0⟩ := hp
  exact Res.val rfl ⟨h0, rfl, trivial⟩
def sip_Hasher_Sum : sip_Hasher → Option (Int × sip_Hasher) := sip_Hasher_SumF sip_state_mix sip_state_take
theorem lift97 : SumOK Try.prog 97 (s97 sip_Hasher_Sum) := ok97 sip_state_mix sip_state_take (SumsOK.of_tab ⟨lift122, lift118, trivial⟩)
end Go.Vm.Code

/- Chapter 12 in plain words: rounds, mixing, a hasher. -/
namespace Go.Vm.Code
open Go Go.Vm

/-- a number turned -/
def trn (x k : Int) : Int := (R12_turn x k).getD 0
theorem turn_eq {x k : Int} (h0 : 0 ≤ k) (h1 : k ≤ 64) : R12_turn x k = some (trn x k) := by
  unfold trn R12_turn R12_turnF
  rw [oreq_p h0, wI64 (n := 64 - k) (by omega) (by omega), oreq_p (by omega)]; rfl
theorem rot_turn {x k : Int} (h : k = 13 ∨ k = 16 ∨ k = 17 ∨ k = 21 ∨ k = 32) : math_bits_RotateLeft64 x k = R12_turn x k := by
  have e1 : andI .u64 (wI .u64 k) 63 = k := by rcases h with rfl | rfl | rfl | rfl | rfl <;> decide +kernel
  have e2 : wI .u64 (64 - k) = 64 - k := wU64 (by omega) (by omega)
  have e3 : wI .i64 (64 - k) = 64 - k := wI64 (by omega) (by omega)
  unfold math_bits_RotateLeft64 math_bits_RotateLeft64F R12_turn R12_turnF
  rw [e1, e2, e3]
theorem rot_eq {x k : Int} (h : k = 13 ∨ k = 16 ∨ k = 17 ∨ k = 21 ∨ k = 32) : math_bits_RotateLeft64 x k = some (trn x k) := by
  rw [rot_turn h]; exact turn_eq (by omega) (by omega)
/-- a round -/
def rnd (s : Arr4_Int) : Arr4_Int :=
  let a1 := wI .u64 (s.e0 + s.e1)
  let b1 := ixorI .u64 (trn s.e1 13) a1
  let c1 := wI .u64 (s.e2 + s.e3)
  let d1 := ixorI .u64 (trn s.e3 16) c1
  let t := wI .u64 (trn a1 32 + d1)
  let t1 := wI .u64 (c1 + b1)
  ⟨t, ixorI .u64 (trn b1 17) t1, trn t1 32, ixorI .u64 (trn d1 21) t⟩
theorem round_eq (s : Arr4_Int) : sip_state_round s = some (rnd s) := by
  unfold sip_state_round sip_state_roundF
  simp only [rot_eq (k := 13) (by omega), rot_eq (k := 16) (by omega), rot_eq (k := 17) (by omega), rot_eq (k := 21) (by omega), rot_eq (k := 32) (by omega), Option.bind_some]
  rfl
theorem Round_eq (a b c d : Int) : R12_Round a b c d = some ((rnd ⟨a, b, c, d⟩).e0, (rnd ⟨a, b, c, d⟩).e1, (rnd ⟨a, b, c, d⟩).e2, (rnd ⟨a, b, c, d⟩).e3) := by
  unfold R12_Round R12_RoundF
  simp only [turn_eq (k := 13) (by omega) (by omega), turn_eq (k := 16) (by omega) (by omega), turn_eq (k := 17) (by omega) (by omega), turn_eq (k := 21) (by omega) (by omega), turn_eq (k := 32) (by omega) (by omega), Option.bind_some]
  rfl
def rnds : Nat → Arr4_Int → Arr4_Int
  | 0, q => q
  | n + 1, q => rnds n (rnd q)
/-- how many rounds -/
def cnt (n : Int) : Nat := (if (if 64 < n then 64 else n) > 0 then if 64 < n then 64 else n else 0 : Int).toNat
theorem mix_eq (s : Arr4_Int) (n : Int) : sip_state_mix s n = some (rnds (cnt n) s) := by
  unfold sip_state_mix sip_state_mixF cnt
  generalize ht : (if (if 64 < n then 64 else n) > 0 then if 64 < n then 64 else n else 0 : Int) = t
  have hb : 0 ≤ t ∧ t ≤ 64 := by rw [← ht]; split <;> split <;> omega
  have key := iter_eq (step := fun (st : Int × Int × Int × Int × Int) => sip_state_mix_s1 sip_state_round t st.1 st.2.1 st.2.2.1 st.2.2.2.1 st.2.2.2.2) (fun st => rnds (t - st.1).toNat ⟨st.2.1, st.2.2.1, st.2.2.2.1, st.2.2.2.2⟩) (fun st => 0 ≤ st.1 ∧ st.1 ≤ t) (fun st => (t - st.1).toNat) ?_ FUEL (0, s.e0, s.e1, s.e2, s.e3) ⟨by simp, hb.1⟩ (by rw [FUEL_eq]; simp only; omega)
  · simp only [] at key ⊢
    rw [key]; simp
  rintro ⟨i, a, b, c, d⟩ ⟨g1, g2⟩
  simp only at g1 g2 ⊢
  unfold sip_state_mix_s1
  by_cases hi : i < t
  · refine .inr ⟨(i + 1, (rnd ⟨a, b, c, d⟩).e0, (rnd ⟨a, b, c, d⟩).e1, (rnd ⟨a, b, c, d⟩).e2, (rnd ⟨a, b, c, d⟩).e3), ?_, ⟨by simp only; omega, by simp only; omega⟩, by simp only; omega, ?_⟩
    · rw [cond_p hi, round_eq, Option.bind_some, wI64 (by omega) (by omega)]
    · simp only []
      have e : (t - i).toNat = (t - (i + 1)).toNat + 1 := by omega
      rw [e]; rfl
  · refine .inl ?_
    rw [cond_n hi]
    have e : (t - i).toNat = 0 := by omega
    simp only [e, rnds]
theorem Mix_eq (a b c d n : Int) : R12_Mix a b c d n = some (rnds (cnt n) ⟨a, b, c, d⟩) := by
  unfold R12_Mix R12_MixF
  have hc : ∀ i : Int, 0 ≤ i → i ≤ cnt n → (i < cnt n ↔ i < n ∧ i < 64) := by
    intro i h0 h1
    revert h1
    unfold cnt
    split <;> split <;> omega
  have hb : (cnt n : Int) ≤ 64 := by unfold cnt; split <;> split <;> omega
  have key := iter_eq (step := fun (st : Int × Int × Int × Int × Int) => R12_Mix_s1 R12_Round n st.1 st.2.1 st.2.2.1 st.2.2.2.1 st.2.2.2.2) (fun st => rnds (cnt n - st.2.2.2.2).toNat ⟨st.1, st.2.1, st.2.2.1, st.2.2.2.1⟩) (fun st => 0 ≤ st.2.2.2.2 ∧ st.2.2.2.2 ≤ cnt n) (fun st => (cnt n - st.2.2.2.2).toNat) ?_ FUEL (a, b, c, d, 0) ⟨by simp, by simp⟩ (by rw [FUEL_eq]; simp only; omega)
  · rw [key]; simp
  rintro ⟨a, b, c, d, i⟩ ⟨g1, g2⟩
  simp only at g1 g2 ⊢
  unfold R12_Mix_s1
  have hh := hc i g1 g2
  by_cases hi : i < cnt n
  · obtain ⟨h1, h2⟩ := hh.1 hi
    refine .inr ⟨((rnd ⟨a, b, c, d⟩).e0, (rnd ⟨a, b, c, d⟩).e1, (rnd ⟨a, b, c, d⟩).e2, (rnd ⟨a, b, c, d⟩).e3, i + 1), ?_, ⟨by simp only; omega, by simp only; omega⟩, by simp only; omega, ?_⟩
    · rw [cond_p h1, cond_p h2, Round_eq, Option.bind_some, wI64 (by omega) (by omega)]
    · simp only []
      have e : ((cnt n : Int) - i).toNat = ((cnt n : Int) - (i + 1)).toNat + 1 := by omega
      rw [e]; rfl
  · refine .inl ?_
    have e : ((cnt n : Int) - i).toNat = 0 := by omega
    simp only [e, rnds]
    by_cases h1 : i < n
    · rw [cond_p h1, cond_n (by omega)]
    · rw [cond_n h1]
/-- a word mixed in -/
def tak (s : Arr4_Int) (m : Int) : Arr4_Int :=
  let q := rnds 2 ⟨s.e0, s.e1, s.e2, ixorI .u64 s.e3 m⟩
  ⟨ixorI .u64 q.e0 m, q.e1, q.e2, q.e3⟩
theorem take_eq (s : Arr4_Int) (m : Int) : sip_state_take s m = some (tak s m) := by
  unfold sip_state_take sip_state_takeF
  rw [mix_eq, show cnt 2 = 2 from rfl, Option.bind_some]
  simp only [tak]
/-- a byte more -/
def wrT (T : Arr4_Int → Int → Arr4_Int) (h : sip_Hasher) (b : UInt8) : sip_Hasher :=
  let m := iorI .u64 h.last (wI .u64 ((b.toNat : Int) * 2 ^ (8 * (h.count.toNat % 8))))
  if (h.count.toNat + 1) % 8 = 0 then ⟨h.made, T h.s m, 0, h.count + 1⟩ else ⟨h.made, h.s, m, h.count + 1⟩
theorem WriteF_eq (T : Arr4_Int → Int → Arr4_Int) {h : sip_Hasher} {s : List UInt8} (hm : h.made = true) (h0 : 0 ≤ h.count) (h1 : h.count + s.length < 2 ^ 62) : sip_Hasher_WriteF (fun q m => some (T q m)) h s = some (s.foldl (wrT T) h) := by
  unfold sip_Hasher_WriteF
  rw [hm, Bool.not_true, cond_false]
  have key := iter_eq (step := fun (st : Int × Int × Int × Int × Int × Int × Int) => sip_Hasher_Write_s1 (fun q m => some (T q m)) h s st.1 st.2.1 st.2.2.1 st.2.2.2.1 st.2.2.2.2.1 st.2.2.2.2.2.1 st.2.2.2.2.2.2)
    (fun st => (s.drop st.1.toNat).foldl (wrT T) ⟨true, ⟨st.2.1, st.2.2.1, st.2.2.2.1, st.2.2.2.2.1⟩, st.2.2.2.2.2.1, st.2.2.2.2.2.2⟩) (fun st => 0 ≤ st.1 ∧ st.1 ≤ s.length ∧ st.2.2.2.2.2.2 = h.count + st.1) (fun st => (s.length - st.1).toNat) ?_ FUEL (0, h.s.e0, h.s.e1, h.s.e2, h.s.e3, h.last, h.count) ⟨by simp, by simp, by simp⟩ (by rw [FUEL_eq]; simp only; omega)
  · rw [key]
    simp only [Int.toNat_zero, List.drop_zero]
    rw [← hm]
  rintro ⟨p, a, b, c, d, l, n⟩ ⟨g1, g2, g3⟩
  simp only at g1 g2 g3 ⊢
  obtain ⟨i, rfl⟩ := Int.eq_ofNat_of_zero_le g1
  obtain ⟨k, hk⟩ := Int.eq_ofNat_of_zero_le (show 0 ≤ n by omega)
  subst hk
  simp only [Int.toNat_natCast]
  unfold sip_Hasher_Write_s1
  by_cases hi : i < s.length
  · have hb := s[i].toNat_lt
    have e1 : (bI s)[i]? = some (s[i].toNat : Int) := by simp [bI, hi]
    have e2 : ((k : Int).tmod 8) = ((k % 8 : Nat) : Int) := by rw [Int.tmod_eq_emod_of_nonneg (by omega)]; rfl
    have e3 : min (8 * ((k % 8 : Nat) : Int)).toNat 64 = 8 * (k % 8) := by omega
    have e4 : (((k : Int) + 1).tmod 8 == 0) = decide ((k + 1) % 8 = 0) := by
      rw [Int.tmod_eq_emod_of_nonneg (by omega), Bool.eq_iff_iff, beq_iff_eq, decide_eq_true_eq]; omega
    refine .inr ⟨(((i + 1 : Nat) : Int), (wrT T ⟨true, ⟨a, b, c, d⟩, l, k⟩ s[i]).s.e0, (wrT T ⟨true, ⟨a, b, c, d⟩, l, k⟩ s[i]).s.e1, (wrT T ⟨true, ⟨a, b, c, d⟩, l, k⟩ s[i]).s.e2, (wrT T ⟨true, ⟨a, b, c, d⟩, l, k⟩ s[i]).s.e3, (wrT T ⟨true, ⟨a, b, c, d⟩, l, k⟩ s[i]).last, (k : Int) + 1), ?_, ⟨by simp only; omega, by simp only; omega, by simp only; omega⟩, by simp only; omega, ?_⟩
    · simp (disch := omega) only [cond_p, oreq_p, Int.toNat_natCast, e1, Option.bind_some, e2, wI64, e3, e4, wU64 (n := (s[i].toNat : Int)), cond_dec]
      unfold wrT
      simp only [Int.toNat_natCast]
      split <;> rfl
    · simp only [Int.toNat_natCast]
      rw [List.drop_eq_getElem_cons hi, List.foldl_cons]
      congr 1
      unfold wrT
      simp only [Int.toNat_natCast]
      split <;> rfl
  · refine .inl ?_
    rw [cond_n (by omega), List.drop_eq_nil_of_le (by omega), hm]; rfl
def wrB : sip_Hasher → UInt8 → sip_Hasher := wrT tak
theorem Write_eq {h : sip_Hasher} {s : List UInt8} (hm : h.made = true) (h0 : 0 ≤ h.count) (h1 : h.count + s.length < 2 ^ 62) : sip_Hasher_Write h s = some (s.foldl wrB h) := by
  unfold sip_Hasher_Write
  rw [show sip_state_take = fun q m => some (tak q m) from funext fun q => funext fun m => take_eq q m]
  exact WriteF_eq tak hm h0 h1
theorem wrT_made (T : Arr4_Int → Int → Arr4_Int) (h : sip_Hasher) (b : UInt8) : (wrT T h b).made = h.made := by unfold wrT; simp only; split <;> rfl
theorem wrT_count (T : Arr4_Int → Int → Arr4_Int) (h : sip_Hasher) (b : UInt8) : (wrT T h b).count = h.count + 1 := by unfold wrT; simp only; split <;> rfl
theorem wrB_made (h : sip_Hasher) (b : UInt8) : (wrB h b).made = h.made := wrT_made tak h b
theorem wrB_count (h : sip_Hasher) (b : UInt8) : (wrB h b).count = h.count + 1 := wrT_count tak h b
theorem wrL : ∀ (s : List UInt8) (h : sip_Hasher), (s.foldl wrB h).made = h.made ∧ (s.foldl wrB h).count = h.count + s.length
  | [], h => ⟨rfl, by simp⟩
  | b :: s, h => by
    obtain ⟨a1, a2⟩ := wrL s (wrB h b)
    rw [List.foldl_cons, a1, a2, wrB_made, wrB_count, List.length_cons]
    exact ⟨rfl, by omega⟩
/-- the hash of what came -/
def sumV (h : sip_Hasher) : Int :=
  let t := tak h.s (iorI .u64 h.last (wI .u64 ((wI .u64 h.count) * 2 ^ 56)))
  let m := rnds 4 ⟨t.e0, t.e1, ixorI .u64 t.e2 255, t.e3⟩
  ixorI .u64 (ixorI .u64 (ixorI .u64 m.e0 m.e1) m.e2) m.e3
theorem Sum_eq {h : sip_Hasher} (hm : h.made = true) : sip_Hasher_Sum h = some (sumV h, h) := by
  unfold sip_Hasher_Sum sip_Hasher_SumF
  rw [hm, Bool.not_true, cond_false]
  simp only [take_eq, mix_eq, Option.bind_some, show cnt 4 = 4 from rfl, sumV]
def newV (k : api_Key) : sip_Hasher := ⟨true, ⟨ixorI .u64 8317987319222330741 k.A, ixorI .u64 7237128888997146477 k.B, ixorI .u64 7816392313619706465 k.A, ixorI .u64 8387220255154660723 k.B⟩, 0, 0⟩
theorem New_eq (k : api_Key) : sip_New k = some (newV k) := rfl
end Go.Vm.Code

namespace Go.Vm.Code
open Go Go.Vm Go.Proofs
set_option maxRecDepth 100000
set_option maxHeartbeats 4000000
set_option linter.unusedVariables false

/-! cloakroom/cloakroomref12.word -/
def R12_word_s1 (s : List UInt8) (n : Int) (i : Int) : Option (Sum (Int × Int) Int) :=
  cond (decide (i ≥ 0))
    (
    oreq (decide (0 ≤ i)) <|
    (s[i.toNat]?).bind fun (b : UInt8) =>
    let t := wI .u64 ((wI .u64 (n * 2 ^ 8)) + (wI .u64 (b.toNat : Int)))
    some (.inl (t, wI .i64 (i - 1))))
    (
    some (.inr (n)))
def R12_wordF (s : List UInt8) : Option Int :=
  iter (fun st => R12_word_s1 s st.1 st.2) FUEL (0, wI .i64 ((s.length : Int) - 1))
def post123 (x : Int) (v : Value) (H : Hp) : Prop := v = .int .u64 x
def r123 (g : (List UInt8) → Option Int) : List SArg → Option SRes
  | [.v (.string ⟨⟨a0_1⟩⟩)] => match g a0_1 with | some x => some ⟨.int .u64 x, [], []⟩ | none => none
  | _ => none
def s123 (g : (List UInt8) → Option Int) : Summ := ⟨[.v], r123 g⟩
theorem r123_eq {g : (List UInt8) → Option Int} {a0_1 : List UInt8} {x : Int} (hx : g a0_1 = some x) : (s123 g).run [.v (.string ⟨⟨a0_1⟩⟩)] = some ⟨.int .u64 x, [], []⟩ := by
  show r123 g [.v (.string ⟨⟨a0_1⟩⟩)] = _
  simp only [r123, hx]
abbrev sums123 : List (Nat × Summ) := []
def head123_1 (s : List UInt8) (n : Int) (i : Int) : VM :=
  ⟨⟨123, 20, [(0, .string ⟨⟨s⟩⟩), (3, .int .u64 n), (4, .int .i64 i)], [.code k123_10, .inLoop k123_10, .inBlock 0, .code k123_15], [], false, none⟩, [], [], 0⟩
theorem loop123_1 (hS : SumsOK Try.prog (aget (sums123))) (s : List UInt8) (res : Int) : ∀ fuel (st : Int × Int) (o : Int), iter (fun st => R12_word_s1 s st.1 st.2) fuel st = some o → (o = res) →
    Leads Try.prog 123 0 (head123_1 s st.1 st.2) (fun v H _ => post123 res v H) := by
  intro fuel st o h hc
  refine iter_leads (head := fun st => head123_1 s st.1 st.2) (C := fun o => (o = res)) ?_ fuel st o h hc
  clear h hc o st fuel
  intro st o h hc
  obtain ⟨n, i⟩ := st
  replace h : R12_word_s1 s n i = some o := h
  show Leads Try.prog 123 0 (head123_1 s n i) (fun v H _ => post123 res v H)
  unfold R12_word_s1 at h
  refine ev_ok tab_ok hS true 3000 ?_
  conv => whnf
  refine br.h2 h ?_ ?_ ?_
  · rfl
  · clear h; intro hb h; conv => whnf
    all_goals (cases h; cases hc)
    all_goals exact rfl
  clear h; intro hb h; conv => whnf
  replace h := oreq.elim h; have hb := h.1; replace h := h.2
  first | (refine req.intro hb ?_; conv => whnf) | skip
  obtain ⟨b, hy, h2⟩ := obind.elim h; clear h; have h := h2; clear h2
  refine rdS.intro hy ?_
  conv => whnf
  let t : Int := wI .u64 ((wI .u64 (n * 2 ^ 8)) + (wI .u64 (b.toNat : Int)))
  cases h; simp only [Sum.elim_inl, Sum.elim_inr, head123_1] at hc
  refine Leads.re hc [] rfl ?_ ?_ <;> (repeat' first | exact trivial | refine ⟨⟨_, rfl, rfl⟩, ?_⟩ | refine ⟨⟨_, _, rfl, rfl, .rowF (vI_flat _ _) id⟩, ?_⟩ | refine ⟨⟨_, _, rfl, rfl, .rowF (vS_flat _) id⟩, ?_⟩ | refine ⟨⟨_, _, rfl, rfl, .rowF (vB_flat _) id⟩, ?_⟩ | refine ⟨⟨_, _, rfl, rfl, .cells rfl⟩, ?_⟩ | refine ⟨⟨_, _, rfl, rfl, .row rfl id⟩, ?_⟩ | refine ⟨⟨_, _, rfl, rfl, .cr rfl⟩, ?_⟩ | refine ⟨⟨_, _, rfl, rfl, .rc rfl⟩, ?_⟩ | refine ⟨⟨_, _, rfl, rfl, .marks⟩, ?_⟩ | refine ⟨⟨_, _, rfl, rfl, .siter _ _⟩, ?_⟩ | refine ⟨⟨_, _, rfl, rfl, .loop rfl rfl rfl rfl (by repeat' first | exact trivial | refine ⟨rfl, ?_⟩) rfl rfl rfl rfl⟩, ?_⟩)
theorem leads123 (hS : SumsOK Try.prog (aget (sums123))) (s : List UInt8) (res : Int) (h : R12_wordF s = some res) :
    Leads Try.prog 123 0 ⟨⟨123, 20, [(0, .string ⟨⟨s⟩⟩)], [.code k123_18], [], false, none⟩, [], [], 0⟩ (fun v H _ => post123 res v H) := by
  unfold R12_wordF at h
  refine ev_ok tab_ok hS true 3000 ?_
  conv => whnf
  have hl := loop123_1 hS _ res _ _ _ h rfl; simp only [head123_1] at hl
  refine Leads.re hl [] rfl ?_ ?_ <;> (repeat' first | exact trivial | refine ⟨⟨_, rfl, rfl⟩, ?_⟩ | refine ⟨⟨_, _, rfl, rfl, .rowF (vI_flat _ _) id⟩, ?_⟩ | refine ⟨⟨_, _, rfl, rfl, .rowF (vS_flat _) id⟩, ?_⟩ | refine ⟨⟨_, _, rfl, rfl, .rowF (vB_flat _) id⟩, ?_⟩ | refine ⟨⟨_, _, rfl, rfl, .cells rfl⟩, ?_⟩ | refine ⟨⟨_, _, rfl, rfl, .row rfl id⟩, ?_⟩ | refine ⟨⟨_, _, rfl, rfl, .cr rfl⟩, ?_⟩ | refine ⟨⟨_, _, rfl, rfl, .rc rfl⟩, ?_⟩ | refine ⟨⟨_, _, rfl, rfl, .marks⟩, ?_⟩ | refine ⟨⟨_, _, rfl, rfl, .siter _ _⟩, ?_⟩ | refine ⟨⟨_, _, rfl, rfl, .loop rfl rfl rfl rfl (by repeat' first | exact trivial | refine ⟨rfl, ?_⟩) rfl rfl rfl rfl⟩, ?_⟩)
theorem ok123 (hS : SumsOK Try.prog (aget (sums123))) : SumOK Try.prog 123 (s123 (R12_wordF)) := by
  refine SumOK.of_leads tab_ok (fun ar r ha hr => ?_) ⟨Try.f123, rfl, by decide, rfl⟩
  simp only [s123] at ha hr
  unfold r123 at hr
  split at hr <;> try (cases hr; done)
  split at hr <;> cases hr
  rename_i x h
  refine ⟨_, rfl, (leads123 hS _ x h).mono fun v H t hp => ?_⟩
  cases hp
  exact Res.val rfl trivial
def R12_word : (List UInt8) → Option Int := R12_wordF
theorem lift123 : SumOK Try.prog 123 (s123 R12_word) := ok123 (SumsOK.of_tab trivial)
end Go.Vm.Code

namespace Go.Vm.Code
open Go Go.Vm Go.Proofs
set_option maxRecDepth 100000
set_option maxHeartbeats 4000000
set_option linter.unusedVariables false

/-! cloakroom/cloakroomref12.Hash -/
def R12_Hash_s1 (R12_Round : Int → Int → Int → Int → Option (Int × Int × Int × Int)) (s : List UInt8) (t : Int) (i : Int) (a1 : Int) (b1 : Int) (c1 : Int) (d1 : Int) (m : Int) (n : Int) : Option (Sum (Int × Int × Int × Int × Int × Int) (Sum (Int × Int × Int × Int × Int) Int)) :=
  cond (decide (n < 2))
    (
    (R12_Round a1 b1 c1 d1).bind fun xr =>
    some (.inl (xr.1, xr.2.1, xr.2.2.1, xr.2.2.2, m, wI .i64 (n + 1))))
    (
    some (.inr (.inl (ixorI .u64 a1 m, b1, c1, d1, wI .i64 (i + 8)))))
def R12_Hash_s2 (R12_Mix : Int → Int → Int → Int → Int → Option Arr4_Int) (R12_Round : Int → Int → Int → Int → Option (Int × Int × Int × Int)) (R12_word : (List UInt8) → Option Int) (s : List UInt8) (t : Int) (a : Int) (b : Int) (c : Int) (d : Int) (i : Int) : Option (Sum (Int × Int × Int × Int × Int) Int) :=
  cond (decide (i ≤ t))
    (
    let t1 := if (s.length : Int) < (wI .i64 (i + 8)) then (s.length : Int) else wI .i64 (i + 8)
    oreq (decide ((0 : Int) ≤ t1 ∧ t1 ≤ (s.length : Int) ∧ (0 : Int) ≤ i ∧ i ≤ (t1.toNat : Int))) <|
    let t2 := (s.drop i.toNat).take (t1.toNat - i.toNat)
    (R12_word t2).bind fun w =>
    cond (i == t)
      (
      oreq (decide ((0 : Int) ≤ i ∧ i ≤ (s.length : Int))) <|
      let t3 := (s.drop i.toNat).take (s.length - i.toNat)
      (R12_word t3).bind fun w1 =>
      let t4 := wI .u64 ((wI .u64 ((s.length : Int).tmod 256)) * 2 ^ 56)
      iter (fun st => R12_Hash_s1 R12_Round s t i st.1 st.2.1 st.2.2.1 st.2.2.2.1 st.2.2.2.2.1 st.2.2.2.2.2) FUEL (a, b, c, ixorI .u64 d (wI .u64 (w1 + t4)), wI .u64 (w1 + t4), 0))
      (
      iter (fun st => R12_Hash_s1 R12_Round s t i st.1 st.2.1 st.2.2.1 st.2.2.2.1 st.2.2.2.2.1 st.2.2.2.2.2) FUEL (a, b, c, ixorI .u64 d w, w, 0)))
    (
    (R12_Mix a b (ixorI .u64 c 255) d 4).bind fun m1 =>
    let t5 := ixorI .u64 (ixorI .u64 m1.e0 m1.e1) m1.e2
    some (.inr (ixorI .u64 t5 m1.e3)))
def R12_HashF (R12_Mix : Int → Int → Int → Int → Int → Option Arr4_Int) (R12_Round : Int → Int → Int → Int → Option (Int × Int × Int × Int)) (R12_word : (List UInt8) → Option Int) (k : api_Key) (s : List UInt8) : Option Int :=
  let t := wI .i64 ((wI .i64 ((s.length : Int).tdiv 8)) * 8)
  iter (fun st => R12_Hash_s2 R12_Mix R12_Round R12_word s t st.1 st.2.1 st.2.2.1 st.2.2.2.1 st.2.2.2.2) FUEL (ixorI .u64 8317987319222330741 k.A, ixorI .u64 7237128888997146477 k.B, ixorI .u64 7816392313619706465 k.A, ixorI .u64 8387220255154660723 k.B, 0)
def post98 (x : Int) (v : Value) (H : Hp) : Prop := v = .int .u64 x
def r98 (g : api_Key → (List UInt8) → Option Int) : List SArg → Option SRes
  | [.v (.agg ⟨[.int .u64 a0_1, .int .u64 a0_2]⟩), .v (.string ⟨⟨a1_1⟩⟩)] => match g (api_Key.mk a0_1 a0_2) a1_1 with | some x => some ⟨.int .u64 x, [], []⟩ | none => none
  | _ => none
def s98 (g : api_Key → (List UInt8) → Option Int) : Summ := ⟨[.v, .v], r98 g⟩
theorem r98_eq {g : api_Key → (List UInt8) → Option Int} {a0_1 : Int} {a0_2 : Int} {a1_1 : List UInt8} {x : Int} (hx : g (api_Key.mk a0_1 a0_2) a1_1 = some x) : (s98 g).run [.v (.agg ⟨[.int .u64 a0_1, .int .u64 a0_2]⟩), .v (.string ⟨⟨a1_1⟩⟩)] = some ⟨.int .u64 x, [], []⟩ := by
  show r98 g [.v (.agg ⟨[.int .u64 a0_1, .int .u64 a0_2]⟩), .v (.string ⟨⟨a1_1⟩⟩)] = _
  simp only [r98, hx]
abbrev sums98 (R12_Mix : Int → Int → Int → Int → Int → Option Arr4_Int) (R12_Round : Int → Int → Int → Int → Option (Int × Int × Int × Int)) (R12_word : (List UInt8) → Option Int) : List (Nat × Summ) := [(125, s125 R12_Mix), (124, s124 R12_Round), (123, s123 R12_word)]
def head98_1 (s : List UInt8) (t : Int) (i : Int) (a1 : Int) (b1 : Int) (c1 : Int) (d1 : Int) (m : Int) (n : Int) : VM :=
  ⟨⟨98, 95, [(1, .string ⟨⟨s⟩⟩), (5, .int .u64 a1), (6, .int .u64 b1), (7, .int .u64 c1), (8, .int .u64 d1), (9, .int .i64 t), (10, .int .i64 i), (11, .int .u64 m), (12, .int .i64 n)], [.code k98_22, .inLoop k98_22, .inBlock 2, .code k98_26, .inBlock 1, .code k98_32, .inLoop k98_34, .inBlock 0, .code k98_43], [], false, none⟩, [], [], 17⟩
def head98_2 (s : List UInt8) (t : Int) (a : Int) (b : Int) (c : Int) (d : Int) (i : Int) : VM :=
  ⟨⟨98, 95, [(1, .string ⟨⟨s⟩⟩), (5, .int .u64 a), (6, .int .u64 b), (7, .int .u64 c), (8, .int .u64 d), (9, .int .i64 t), (10, .int .i64 i)], [.code k98_34, .inLoop k98_34, .inBlock 0, .code k98_43], [], false, none⟩, [], [], 17⟩
theorem loop98_1 (R12_Mix : Int → Int → Int → Int → Int → Option Arr4_Int) (R12_Round : Int → Int → Int → Int → Option (Int × Int × Int × Int)) (R12_word : (List UInt8) → Option Int) (hS : SumsOK Try.prog (aget (sums98 R12_Mix R12_Round R12_word))) (s : List UInt8) (t : Int) (i : Int) (res : Int) : ∀ fuel (st : Int × Int × Int × Int × Int × Int) (o : Sum (Int × Int × Int × Int × Int) Int), iter (fun st => R12_Hash_s1 R12_Round s t i st.1 st.2.1 st.2.2.1 st.2.2.2.1 st.2.2.2.2.1 st.2.2.2.2.2) fuel st = some o → (Sum.elim (fun s0 => Leads Try.prog 98 0 (head98_2 s t s0.1 s0.2.1 s0.2.2.1 s0.2.2.2.1 s0.2.2.2.2) (fun v H _ => post98 res v H)) (fun r0 => r0 = res) o) →
    Leads Try.prog 98 0 (head98_1 s t i st.1 st.2.1 st.2.2.1 st.2.2.2.1 st.2.2.2.2.1 st.2.2.2.2.2) (fun v H _ => post98 res v H) := by
  intro fuel st o h hc
  refine iter_leads (head := fun st => head98_1 s t i st.1 st.2.1 st.2.2.1 st.2.2.2.1 st.2.2.2.2.1 st.2.2.2.2.2) (C := fun o => (Sum.elim (fun s0 => Leads Try.prog 98 0 (head98_2 s t s0.1 s0.2.1 s0.2.2.1 s0.2.2.2.1 s0.2.2.2.2) (fun v H _ => post98 res v H)) (fun r0 => r0 = res) o)) ?_ fuel st o h hc
  clear h hc o st fuel
  intro st o h hc
  obtain ⟨a1, b1, c1, d1, m, n⟩ := st
  replace h : R12_Hash_s1 R12_Round s t i a1 b1 c1 d1 m n = some o := h
  show Leads Try.prog 98 0 (head98_1 s t i a1 b1 c1 d1 m n) (fun v H _ => post98 res v H)
  unfold R12_Hash_s1 at h
  refine ev_ok tab_ok hS true 3000 ?_
  conv => whnf
  refine br.h2 h ?_ ?_ ?_
  · rfl
  · clear h; intro hb h; conv => whnf
    cases h; simp only [Sum.elim_inl, Sum.elim_inr, head98_2] at hc
    refine Leads.re hc [] rfl ?_ ?_ <;> (repeat' first | exact trivial | refine ⟨⟨_, rfl, rfl⟩, ?_⟩ | refine ⟨⟨_, _, rfl, rfl, .rowF (vI_flat _ _) id⟩, ?_⟩ | refine ⟨⟨_, _, rfl, rfl, .rowF (vS_flat _) id⟩, ?_⟩ | refine ⟨⟨_, _, rfl, rfl, .rowF (vB_flat _) id⟩, ?_⟩ | refine ⟨⟨_, _, rfl, rfl, .cells rfl⟩, ?_⟩ | refine ⟨⟨_, _, rfl, rfl, .row rfl id⟩, ?_⟩ | refine ⟨⟨_, _, rfl, rfl, .cr rfl⟩, ?_⟩ | refine ⟨⟨_, _, rfl, rfl, .rc rfl⟩, ?_⟩ | refine ⟨⟨_, _, rfl, rfl, .marks⟩, ?_⟩ | refine ⟨⟨_, _, rfl, rfl, .siter _ _⟩, ?_⟩ | refine ⟨⟨_, _, rfl, rfl, .loop rfl rfl rfl rfl (by repeat' first | exact trivial | refine ⟨rfl, ?_⟩) rfl rfl rfl rfl⟩, ?_⟩)
  clear h; intro hb h; conv => whnf
  obtain ⟨xr, hy, h2⟩ := obind.elim h; clear h; have h := h2; clear h2
  refine sumK.introF [] (sumRun_of (aqs := [.v (.int .u64 a1), .v (.int .u64 b1), .v (.int .u64 c1), .v (.int .u64 d1)]) (ra_cons rfl (ra_cons rfl (ra_cons rfl (ra_cons rfl ra_nil)))) (r124_eq hy) rfl rfl rfl rfl) ?_
  conv => whnf
  cases h; simp only [Sum.elim_inl, Sum.elim_inr, head98_1] at hc
  refine Leads.re hc [] rfl ?_ ?_ <;> (repeat' first | exact trivial | refine ⟨⟨_, rfl, rfl⟩, ?_⟩ | refine ⟨⟨_, _, rfl, rfl, .rowF (vI_flat _ _) id⟩, ?_⟩ | refine ⟨⟨_, _, rfl, rfl, .rowF (vS_flat _) id⟩, ?_⟩ | refine ⟨⟨_, _, rfl, rfl, .rowF (vB_flat _) id⟩, ?_⟩ | refine ⟨⟨_, _, rfl, rfl, .cells rfl⟩, ?_⟩ | refine ⟨⟨_, _, rfl, rfl, .row rfl id⟩, ?_⟩ | refine ⟨⟨_, _, rfl, rfl, .cr rfl⟩, ?_⟩ | refine ⟨⟨_, _, rfl, rfl, .rc rfl⟩, ?_⟩ | refine ⟨⟨_, _, rfl, rfl, .marks⟩, ?_⟩ | refine ⟨⟨_, _, rfl, rfl, .siter _ _⟩, ?_⟩ | refine ⟨⟨_, _, rfl, rfl, .loop rfl rfl rfl rfl (by repeat' first | exact trivial | refine ⟨rfl, ?_⟩) rfl rfl rfl rfl⟩, ?_⟩)
theorem loop98_2 (R12_Mix : Int → Int → Int → Int → Int → Option Arr4_Int) (R12_Round : Int → Int → Int → Int → Option (Int × Int × Int × Int)) (R12_word : (List UInt8) → Option Int) (hS : SumsOK Try.prog (aget (sums98 R12_Mix R12_Round R12_word))) (s : List UInt8) (t : Int) (res : Int) : ∀ fuel (st : Int × Int × Int × Int × Int) (o : Int), iter (fun st => R12_Hash_s2 R12_Mix R12_Round R12_word s t st.1 st.2.1 st.2.2.1 st.2.2.2.1 st.2.2.2.2) fuel st = some o → (o = res) →
    Leads Try.prog 98 0 (head98_2 s t st.1 st.2.1 st.2.2.1 st.2.2.2.1 st.2.2.2.2) (fun v H _ => post98 res v H) := by
  intro fuel st o h hc
  refine iter_leads (head := fun st => head98_2 s t st.1 st.2.1 st.2.2.1 st.2.2.2.1 st.2.2.2.2) (C := fun o => (o = res)) ?_ fuel st o h hc
  clear h hc o st fuel
  intro st o h hc
  obtain ⟨a, b, c, d, i⟩ := st
  replace h : R12_Hash_s2 R12_Mix R12_Round R12_word s t a b c d i = some o := h
  show Leads Try.prog 98 0 (head98_2 s t a b c d i) (fun v H _ => post98 res v H)
  unfold R12_Hash_s2 at h
  refine ev_ok tab_ok hS true 3000 ?_
  conv => whnf
  refine br.h2 h ?_ ?_ ?_
  · rfl
  · clear h; intro hb h; conv => whnf
    obtain ⟨m1, hy, h2⟩ := obind.elim h; clear h; have h := h2; clear h2
    refine sumK.introF [] (sumRun_of (aqs := [.v (.int .u64 a), .v (.int .u64 b), .v (.int .u64 (ixorI .u64 c 255)), .v (.int .u64 d), .v (.int .i64 4)]) (ra_cons rfl (ra_cons rfl (ra_cons rfl (ra_cons rfl (ra_cons rfl ra_nil))))) (r125_eq hy) rfl rfl rfl rfl) ?_
    conv => whnf
    let t5 : Int := ixorI .u64 (ixorI .u64 m1.e0 m1.e1) m1.e2
    all_goals (cases h; cases hc)
    all_goals exact rfl
  clear h; intro hb h; conv => whnf
  let t1 : Int := if (s.length : Int) < (wI .i64 (i + 8)) then (s.length : Int) else wI .i64 (i + 8)
  replace h := oreq.elim h; have hb := h.1; replace h := h.2
  first | (refine req.intro hb ?_; conv => whnf) | skip
  let t2 : List UInt8 := (s.drop i.toNat).take (t1.toNat - i.toNat)
  obtain ⟨w, hy, h2⟩ := obind.elim h; clear h; have h := h2; clear h2
  refine sumK.introF [] (sumRun_of (aqs := [.v (.string ⟨⟨t2⟩⟩)]) (ra_cons rfl ra_nil) (r123_eq hy) rfl rfl rfl rfl) ?_
  conv => whnf
  refine br.h2 h ?_ ?_ ?_
  · rfl
  · clear h; intro hb h; conv => whnf
    have hl := loop98_1 R12_Mix R12_Round R12_word hS _ _ _ res _ _ _ h hc; simp only [head98_1] at hl
    refine Leads.re hl [] rfl ?_ ?_ <;> (repeat' first | exact trivial | refine ⟨⟨_, rfl, rfl⟩, ?_⟩ | refine ⟨⟨_, _, rfl, rfl, .rowF (vI_flat _ _) id⟩, ?_⟩ | refine ⟨⟨_, _, rfl, rfl, .rowF (vS_flat _) id⟩, ?_⟩ | refine ⟨⟨_, _, rfl, rfl, .rowF (vB_flat _) id⟩, ?_⟩ | refine ⟨⟨_, _, rfl, rfl, .cells rfl⟩, ?_⟩ | refine ⟨⟨_, _, rfl, rfl, .row rfl id⟩, ?_⟩ | refine ⟨⟨_, _, rfl, rfl, .cr rfl⟩, ?_⟩ | refine ⟨⟨_, _, rfl, rfl, .rc rfl⟩, ?_⟩ | refine ⟨⟨_, _, rfl, rfl, .marks⟩, ?_⟩ | refine ⟨⟨_, _, rfl, rfl, .siter _ _⟩, ?_⟩ | refine ⟨⟨_, _, rfl, rfl, .loop rfl rfl rfl rfl (by repeat' first | exact trivial | refine ⟨rfl, ?_⟩) rfl rfl rfl rfl⟩, ?_⟩)
  clear h; intro hb h; conv => whnf
  replace h := oreq.elim h; have hb := h.1; replace h := h.2
  first | (refine req.intro hb ?_; conv => whnf) | skip
  let t3 : List UInt8 := (s.drop i.toNat).take (s.length - i.toNat)
  obtain ⟨w1, hy, h2⟩ := obind.elim h; clear h; have h := h2; clear h2
  refine sumK.introF [] (sumRun_of (aqs := [.v (.string ⟨⟨t3⟩⟩)]) (ra_cons rfl ra_nil) (r123_eq hy) rfl rfl rfl rfl) ?_
  conv => whnf
  let t4 : Int := wI .u64 ((wI .u64 ((s.length : Int).tmod 256)) * 2 ^ 56)
  have hl := loop98_1 R12_Mix R12_Round R12_word hS _ _ _ res _ _ _ h hc; simp only [head98_1] at hl
  refine Leads.re hl [] rfl ?_ ?_ <;> (repeat' first | exact trivial | refine ⟨⟨_, rfl, rfl⟩, ?_⟩ | refine ⟨⟨_, _, rfl, rfl, .rowF (vI_flat _ _) id⟩, ?_⟩ | refine ⟨⟨_, _, rfl, rfl, .rowF (vS_flat _) id⟩, ?_⟩ | refine ⟨⟨_, _, rfl, rfl, .rowF (vB_flat _) id⟩, ?_⟩ | refine ⟨⟨_, _, rfl, rfl, .cells rfl⟩, ?_⟩ | refine ⟨⟨_, _, rfl, rfl, .row rfl id⟩, ?_⟩ | refine ⟨⟨_, _, rfl, rfl, .cr rfl⟩, ?_⟩ | refine ⟨⟨_, _, rfl, rfl, .rc rfl⟩, ?_⟩ | refine ⟨⟨_, _, rfl, rfl, .marks⟩, ?_⟩ | refine ⟨⟨_, _, rfl, rfl, .siter _ _⟩, ?_⟩ | refine ⟨⟨_, _, rfl, rfl, .loop rfl rfl rfl rfl (by repeat' first | exact trivial | refine ⟨rfl, ?_⟩) rfl rfl rfl rfl⟩, ?_⟩)
theorem leads98 (R12_Mix : Int → Int → Int → Int → Int → Option Arr4_Int) (R12_Round : Int → Int → Int → Int → Option (Int × Int × Int × Int)) (R12_word : (List UInt8) → Option Int) (hS : SumsOK Try.prog (aget (sums98 R12_Mix R12_Round R12_word))) (k : api_Key) (s : List UInt8) (res : Int) (h : R12_HashF R12_Mix R12_Round R12_word k s = some res) :
    Leads Try.prog 98 0 ⟨⟨98, 95, [(0, .agg ⟨[.int .u64 k.A, .int .u64 k.B]⟩), (1, .string ⟨⟨s⟩⟩)], [.code k98_48], [], false, none⟩, [], [], 0⟩ (fun v H _ => post98 res v H) := by
  unfold R12_HashF at h
  refine ev_ok tab_ok hS true 3000 ?_
  conv => whnf
  let t : Int := wI .i64 ((wI .i64 ((s.length : Int).tdiv 8)) * 8)
  have hl := loop98_2 R12_Mix R12_Round R12_word hS _ _ res _ _ _ h rfl; simp only [head98_2] at hl
  refine Leads.re hl [] rfl ?_ ?_ <;> (repeat' first | exact trivial | refine ⟨⟨_, rfl, rfl⟩, ?_⟩ | refine ⟨⟨_, _, rfl, rfl, .rowF (vI_flat _ _) id⟩, ?_⟩ | refine ⟨⟨_, _, rfl, rfl, .rowF (vS_flat _) id⟩, ?_⟩ | refine ⟨⟨_, _, rfl, rfl, .rowF (vB_flat _) id⟩, ?_⟩ | refine ⟨⟨_, _, rfl, rfl, .cells rfl⟩, ?_⟩ | refine ⟨⟨_, _, rfl, rfl, .row rfl id⟩, ?_⟩ | refine ⟨⟨_, _, rfl, rfl, .cr rfl⟩, ?_⟩ | refine ⟨⟨_, _, rfl, rfl, .rc rfl⟩, ?_⟩ | refine ⟨⟨_, _, rfl, rfl, .marks⟩, ?_⟩ | refine ⟨⟨_, _, rfl, rfl, .siter _ _⟩, ?_⟩ | refine ⟨⟨_, _, rfl, rfl, .loop rfl rfl rfl rfl (by repeat' first | exact trivial | refine ⟨rfl, ?_⟩) rfl rfl rfl rfl⟩, ?_⟩)
theorem ok98 (R12_Mix : Int → Int → Int → Int → Int → Option Arr4_Int) (R12_Round : Int → Int → Int → Int → Option (Int × Int × Int × Int)) (R12_word : (List UInt8) → Option Int) (hS : SumsOK Try.prog (aget (sums98 R12_Mix R12_Round R12_word))) : SumOK Try.prog 98 (s98 (R12_HashF R12_Mix R12_Round R12_word)) := by
  refine SumOK.of_leads tab_ok (fun ar r ha hr => ?_) ⟨Try.f98, rfl, by decide, rfl⟩
  simp only [s98] at ha hr
  unfold r98 at hr
  split at hr <;> try (cases hr; done)
  split at hr <;> cases hr
  rename_i x h
  refine ⟨_, rfl, (leads98 R12_Mix R12_Round R12_word hS _ _ x h).mono fun v H t hp => ?_⟩
  cases hp
  exact Res.val rfl trivial
def R12_Hash : api_Key → (List UInt8) → Option Int := R12_HashF R12_Mix R12_Round R12_word
theorem lift98 : SumOK Try.prog 98 (s98 R12_Hash) := ok98 R12_Mix R12_Round R12_word (SumsOK.of_tab ⟨lift125, lift124, lift123, trivial⟩)
end Go.Vm.Code

/- The reference's hash is the program's: plain words. -/
namespace Go.Vm.Code
open Go Go.Vm

theorem iorU64_hi (k : Nat) {a b : Int} (h0 : 0 ≤ a) (h1 : a * 2 ^ k < 18446744073709551616) (hb0 : 0 ≤ b) (hb : b < 2 ^ k) (hb1 : b < 18446744073709551616) : iorI .u64 b (a * 2 ^ k) = a * 2 ^ k + b := by
  obtain ⟨n, rfl⟩ := Int.eq_ofNat_of_zero_le h0
  obtain ⟨m, rfl⟩ := Int.eq_ofNat_of_zero_le hb0
  have e : ((n : Int) * 2 ^ k) = ((n * 2 ^ k : Nat) : Int) := by push_cast; rfl
  rw [e] at h1 ⊢
  rw [iorU64 (by omega) (by omega), Nat.or_comm, or_low (by exact_mod_cast hb)]; push_cast; rfl
/-- the number of bytes, the lowest one first -/
def wrd : List UInt8 → Nat
  | [] => 0
  | b :: l => b.toNat + 256 * wrd l
theorem wrd_lt : ∀ l : List UInt8, wrd l < 256 ^ l.length
  | [] => by simp [wrd]
  | b :: l => by
    have := wrd_lt l
    have hb := b.toNat_lt
    rw [wrd, List.length_cons, Nat.pow_succ]; omega
theorem wrd_snoc : ∀ (l : List UInt8) (b : UInt8), wrd (l ++ [b]) = wrd l + 256 ^ l.length * b.toNat
  | [], b => by simp [wrd]
  | c :: l, b => by
    have := wrd_snoc l b
    rw [List.cons_append, wrd, this, wrd, List.length_cons, Nat.pow_succ, Nat.mul_add, Nat.mul_comm (256 ^ l.length) 256, Nat.mul_assoc]; omega
theorem pow_le8 {j : Nat} (h : j ≤ 8) : 256 ^ j ≤ 18446744073709551616 := by
  have : (256 : Nat) ^ j ≤ 256 ^ 8 := Nat.pow_le_pow_right (by decide) h
  simpa using this
theorem wrd8 {l : List UInt8} (h : l.length ≤ 8) : wrd l < 18446744073709551616 := Nat.lt_of_lt_of_le (wrd_lt l) (pow_le8 h)
theorem word_eq12 {s : List UInt8} (hs : s.length ≤ 8) : R12_word s = some (wrd s : Int) := by
  unfold R12_word R12_wordF
  rw [wI64 (by omega) (by omega)]
  have key := iter_eq (step := fun (st : Int × Int) => R12_word_s1 s st.1 st.2) (fun st => ((st.1.toNat * 256 ^ (st.2 + 1).toNat + wrd (s.take (st.2 + 1).toNat) : Nat) : Int)) (fun st => 0 ≤ st.1 ∧ -1 ≤ st.2 ∧ st.2 < s.length ∧ st.1.toNat < 256 ^ (s.length - (st.2 + 1).toNat)) (fun st => (st.2 + 1).toNat) ?_ FUEL (0, (s.length : Int) - 1) ⟨by simp, by simp only; omega, by simp only; omega, by simp⟩ (by rw [FUEL_eq]; simp only; omega)
  · rw [key]
    have e : ((s.length : Int) - 1 + 1).toNat = s.length := by omega
    simp only [e]; simp
  rintro ⟨n, i⟩ ⟨g1, g2, g3, g4⟩
  simp only at g1 g2 g3 g4 ⊢
  obtain ⟨v, rfl⟩ := Int.eq_ofNat_of_zero_le g1
  simp only [Int.toNat_natCast] at g4 ⊢
  unfold R12_word_s1
  by_cases hi : i ≥ 0
  · obtain ⟨j, rfl⟩ := Int.eq_ofNat_of_zero_le hi
    have e1 : ((j : Int) + 1).toNat = j + 1 := by omega
    have e2 : ((j : Int) - 1 + 1).toNat = j := by omega
    rw [e1] at g4 ⊢
    have hj : j < s.length := by omega
    have hb := s[j].toNat_lt
    have hv : v * 256 + s[j].toNat < 256 ^ (s.length - j) := by
      rw [show s.length - j = (s.length - (j + 1)) + 1 by omega, Nat.pow_succ]; omega
    have hv2 := pow_le8 (j := s.length - j) (by omega)
    refine .inr ⟨(((v * 256 + s[j].toNat : Nat) : Int), (j : Int) - 1), ?_, ⟨by simp only; omega, by simp only; omega, by simp only; omega, ?_⟩, by simp only; omega, ?_⟩
    · rw [cond_p hi, oreq_p hi, Int.toNat_natCast, List.getElem?_eq_getElem hj, Option.bind_some, wU64 (n := (v : Int) * 2 ^ 8) (by omega) (by omega), wU64 (n := (s[j].toNat : Int)) (by omega) (by omega), wU64 (by omega) (by omega), wI64 (by omega) (by omega)]
      simp only []
      congr 3 <;> omega
    · simp only [e2, Int.toNat_natCast]; exact hv
    · simp only [e2, Int.toNat_natCast]
      rw [List.take_succ_eq_append_getElem hj, wrd_snoc, List.length_take, Nat.min_eq_left (by omega), Nat.pow_succ, Nat.add_mul, Nat.mul_assoc, Nat.mul_comm (256 ^ j) 256, Nat.mul_comm (256 ^ j) s[j].toNat]
      congr 1
      omega
  · refine .inl ?_
    rw [cond_n hi]
    have e1 : (i + 1).toNat = 0 := by omega
    rw [e1]; simp [wrd]
/-- the last steps -/
def finQ (q : Arr4_Int) : Int :=
  let m := rnds 4 ⟨q.e0, q.e1, ixorI .u64 q.e2 255, q.e3⟩
  ixorI .u64 (ixorI .u64 (ixorI .u64 m.e0 m.e1) m.e2) m.e3
theorem part_eq (T : Arr4_Int → Int → Arr4_Int) : ∀ (l : List UInt8) (h : sip_Hasher) (j v : Nat), h.count.toNat % 8 = j → 0 ≤ h.count → h.last = (v : Int) → v < 256 ^ j → j + l.length < 8 → l.foldl (wrT T) h = ⟨h.made, h.s, ((v + 256 ^ j * wrd l : Nat) : Int), h.count + l.length⟩
  | [], h, j, v, hj, h0, hv, hlt, hl => by
    obtain ⟨m, s, la, c⟩ := h
    simp only at hv; subst hv
    simp [wrd]
  | b :: l, h, j, v, hj, h0, hv, hlt, hl => by
    rw [List.length_cons] at hl
    have hb := b.toNat_lt
    have hp : (256 : Nat) ^ j = 2 ^ (8 * j) := by rw [Nat.pow_mul]
    have hp2 := pow_le8 (j := j + 1) (by omega)
    rw [Nat.pow_succ] at hp2
    have hb2 : b.toNat * 256 ^ j ≤ 255 * 256 ^ j := Nat.mul_le_mul_right _ (by omega)
    have hpI : (2 : Int) ^ (8 * j) = ((256 ^ j : Nat) : Int) := by rw [hp]; push_cast; rfl
    have e1 : wI .u64 ((b.toNat : Int) * 2 ^ (8 * j)) = (b.toNat : Int) * 2 ^ (8 * j) := by
      rw [hpI, ← Int.natCast_mul]; exact wU64 (by omega) (by omega)
    have e2 : iorI .u64 (v : Int) ((b.toNat : Int) * 2 ^ (8 * j)) = ((v + 256 ^ j * b.toNat : Nat) : Int) := by
      rw [iorU64_hi (8 * j) (by omega) (by rw [hpI, ← Int.natCast_mul]; omega) (by omega) (by rw [hpI]; omega) (by omega), hpI, ← Int.natCast_mul, Nat.mul_comm]; omega
    have hw : wrT T h b = ⟨h.made, h.s, ((v + 256 ^ j * b.toNat : Nat) : Int), h.count + 1⟩ := by
      unfold wrT
      rw [hj, hv, if_neg (by omega), e1, e2]
    rw [List.foldl_cons, hw, part_eq T l _ (j + 1) (v + 256 ^ j * b.toNat) (by simp only; omega) (by simp only; omega) rfl (by rw [Nat.pow_succ, Nat.mul_comm (256 ^ j) b.toNat]; omega) (by omega)]
    simp only [wrd, Nat.pow_succ, List.length_cons]
    congr 1
    · rw [Nat.mul_add, ← Nat.mul_assoc, Nat.add_assoc]
    · omega
theorem full_eq (T : Arr4_Int → Int → Arr4_Int) {l : List UInt8} {h : sip_Hasher} (hl : l.length = 8) (hc : h.count.toNat % 8 = 0) (h0 : 0 ≤ h.count) (hv : h.last = 0) : l.foldl (wrT T) h = ⟨h.made, T h.s (wrd l : Int), 0, h.count + 8⟩ := by
  obtain ⟨l7, b, rfl⟩ : ∃ l7 b, l = l7 ++ [b] := ⟨l.dropLast, l.getLast (by intro e; rw [e] at hl; simp at hl), (List.dropLast_concat_getLast _).symm⟩
  have h7 : l7.length = 7 := by simp at hl; omega
  have hb := b.toNat_lt
  have hw := wrd_lt l7
  rw [h7] at hw
  rw [List.foldl_append, part_eq T l7 h 0 0 hc h0 (by rw [hv]; rfl) (by simp) (by omega), h7, wrd_snoc, h7]
  simp only [List.foldl_cons, List.foldl_nil, wrT, Nat.pow_zero, Nat.one_mul, Nat.zero_add]
  have e0 : (h.count + ((7 : Nat) : Int)).toNat % 8 = 7 := by omega
  have e00 : ((h.count + ((7 : Nat) : Int)).toNat + 1) % 8 = 0 := by omega
  rw [e0, if_pos e00]
  have e1 : wI .u64 ((b.toNat : Int) * 2 ^ (8 * 7)) = (b.toNat : Int) * 2 ^ (8 * 7) := wU64 (by omega) (by omega)
  have e2 : iorI .u64 (wrd l7 : Int) ((b.toNat : Int) * 2 ^ (8 * 7)) = ((wrd l7 + 256 ^ 7 * b.toNat : Nat) : Int) := by
    rw [iorU64_hi (8 * 7) (by omega) (by omega) (by omega) (by omega) (by omega)]; omega
  rw [e1, e2]
  congr 1
  omega
/-- the hash of what is left -/
def hashR (T : Arr4_Int → Int → Arr4_Int) (fin : Arr4_Int → Int) (n : Nat) (q : Arr4_Int) (l : List UInt8) : Int :=
  if h : 8 ≤ l.length then hashR T fin n (T q (wrd (l.take 8) : Int)) (l.drop 8) else fin (T q ((wrd l + n % 256 * 2 ^ 56 : Nat) : Int))
termination_by l.length
decreasing_by simp; omega
theorem fold_hashR (T : Arr4_Int → Int → Arr4_Int) (fin : Arr4_Int → Int) : ∀ (k : Nat) (l : List UInt8) (h : sip_Hasher), l.length ≤ k → h.count.toNat % 8 = 0 → 0 ≤ h.count → h.last = 0 → ∀ n : Nat, (n : Int) = h.count + l.length →
    fin (T (l.foldl (wrT T) h).s (iorI .u64 (l.foldl (wrT T) h).last (wI .u64 ((wI .u64 (l.foldl (wrT T) h).count) * 2 ^ 56)))) = hashR T fin n h.s l := by
  intro k
  induction k with
  | zero =>
    intro l h hl hc h0 hv n hn
    obtain rfl : l = [] := List.length_eq_zero_iff.1 (by omega)
    rw [hashR, dif_neg (by simp)]
    simp only [List.foldl_nil, hv, wrd]
    congr 2
    simp at hn
    rw [← hn]
    have e1 : wI .u64 ((wI .u64 (n : Int)) * 2 ^ 56) = ((n % 256 : Nat) : Int) * 2 ^ 56 := by rw [wU64m, wU64m]; omega
    rw [e1, iorU64_hi 56 (by omega) (by omega) (by omega) (by omega) (by omega)]; omega
  | succ k ih =>
    intro l h hl hc h0 hv n hn
    by_cases h8 : 8 ≤ l.length
    · rw [hashR, dif_pos h8]
      have hs : l.foldl (wrT T) h = (l.drop 8).foldl (wrT T) ⟨h.made, T h.s (wrd (l.take 8) : Int), 0, h.count + 8⟩ := by
        rw [← full_eq T (l := l.take 8) (by simp; omega) hc h0 hv, ← List.foldl_append, List.take_append_drop]
      rw [hs]
      exact ih (l.drop 8) ⟨h.made, T h.s (wrd (l.take 8) : Int), 0, h.count + 8⟩ (by simp; omega) (by simp only; omega) (by simp only; omega) rfl n (by simp; omega)
    · rw [hashR, dif_neg h8, part_eq T l h 0 0 hc h0 (by rw [hv]; rfl) (by simp) (by omega)]
      simp only [Nat.zero_add, Nat.pow_zero, Nat.one_mul]
      congr 2
      rw [← hn]
      have hw : wrd l < 256 ^ 7 := Nat.lt_of_lt_of_le (wrd_lt l) (Nat.pow_le_pow_right (by decide) (by omega))
      have e1 : wI .u64 ((wI .u64 (n : Int)) * 2 ^ 56) = ((n % 256 : Nat) : Int) * 2 ^ 56 := by rw [wU64m, wU64m]; omega
      rw [e1, iorU64_hi 56 (by omega) (by omega) (by omega) (by omega) (by omega)]; omega
theorem inner12G (r : Arr4_Int → Arr4_Int) (s : List UInt8) (t i a b c d m : Int) (hi : 0 ≤ i ∧ i < 2 ^ 62) : iter (fun (st : Int × Int × Int × Int × Int × Int) => R12_Hash_s1 (fun a b c d => some ((r ⟨a, b, c, d⟩).e0, (r ⟨a, b, c, d⟩).e1, (r ⟨a, b, c, d⟩).e2, (r ⟨a, b, c, d⟩).e3)) s t i st.1 st.2.1 st.2.2.1 st.2.2.2.1 st.2.2.2.2.1 st.2.2.2.2.2) FUEL (a, b, c, d, m, 0) =
    some (.inl (ixorI .u64 (r (r ⟨a, b, c, d⟩)).e0 m, (r (r ⟨a, b, c, d⟩)).e1, (r (r ⟨a, b, c, d⟩)).e2, (r (r ⟨a, b, c, d⟩)).e3, i + 8)) := by
  have e8 : wI .i64 (i + 8) = i + 8 := wI64 (by omega) (by omega)
  show iter _ (18446744073709551613 + 1 + 1 + 1) _ = _
  rw [iter]
  have s1 : ∀ (a b c d n : Int), n < 2 → 0 ≤ n → R12_Hash_s1 (fun a b c d => some ((r ⟨a, b, c, d⟩).e0, (r ⟨a, b, c, d⟩).e1, (r ⟨a, b, c, d⟩).e2, (r ⟨a, b, c, d⟩).e3)) s t i a b c d m n = some (.inl ((r ⟨a, b, c, d⟩).e0, (r ⟨a, b, c, d⟩).e1, (r ⟨a, b, c, d⟩).e2, (r ⟨a, b, c, d⟩).e3, m, n + 1)) := by
    intro a b c d n h1 h0
    unfold R12_Hash_s1
    rw [cond_p h1, Option.bind_some, wI64 (n := n + 1) (by omega) (by omega)]
  have s2 : ∀ (a b c d : Int), R12_Hash_s1 (fun a b c d => some ((r ⟨a, b, c, d⟩).e0, (r ⟨a, b, c, d⟩).e1, (r ⟨a, b, c, d⟩).e2, (r ⟨a, b, c, d⟩).e3)) s t i a b c d m 2 = some (.inr (.inl (ixorI .u64 a m, b, c, d, i + 8))) := by
    intro a b c d
    unfold R12_Hash_s1
    rw [cond_n (by decide), e8]
  rw [s1 a b c d 0 (by decide) (by decide)]
  simp only []
  rw [iter]
  simp only [show (0 : Int) + 1 = 1 from rfl]
  rw [s1 _ _ _ _ 1 (by decide) (by decide)]
  simp only []
  rw [iter]
  simp only [show (1 : Int) + 1 = 2 from rfl]
  rw [s2]
theorem inner12 (s : List UInt8) (t i a b c d m : Int) (hi : 0 ≤ i ∧ i < 2 ^ 62) : iter (fun (st : Int × Int × Int × Int × Int × Int) => R12_Hash_s1 R12_Round s t i st.1 st.2.1 st.2.2.1 st.2.2.2.1 st.2.2.2.2.1 st.2.2.2.2.2) FUEL (a, b, c, ixorI .u64 d m, m, 0) =
    some (.inl ((tak ⟨a, b, c, d⟩ m).e0, (tak ⟨a, b, c, d⟩ m).e1, (tak ⟨a, b, c, d⟩ m).e2, (tak ⟨a, b, c, d⟩ m).e3, i + 8)) := by
  have e : R12_Round = fun a b c d => some ((rnd ⟨a, b, c, d⟩).e0, (rnd ⟨a, b, c, d⟩).e1, (rnd ⟨a, b, c, d⟩).e2, (rnd ⟨a, b, c, d⟩).e3) := by
    funext a b c d; exact Round_eq a b c d
  rw [e, inner12G rnd s t i a b c (ixorI .u64 d m) m hi]
  simp only [tak, rnds]
theorem R12_Hash_eq {k : api_Key} {s : List UInt8} (h : s.length < 2 ^ 60) : R12_Hash k s = some (hashR tak finQ s.length (newV k).s s) := by
  unfold R12_Hash R12_HashF
  have ew : wI .i64 ((wI .i64 ((s.length : Int).tdiv 8)) * 8) = ((s.length / 8 * 8 : Nat) : Int) := by
    rw [Int.tdiv_eq_ediv_of_nonneg (by omega), wI64 (n := (s.length : Int) / 8) (by omega) (by omega), wI64 (by omega) (by omega)]; omega
  rw [ew]
  simp only []
  generalize hw : s.length / 8 * 8 = w
  have hw1 : w ≤ s.length ∧ s.length < w + 8 ∧ w % 8 = 0 := by omega
  have key := iter_eq (step := fun (st : Int × Int × Int × Int × Int) => R12_Hash_s2 R12_Mix R12_Round R12_word s (w : Int) st.1 st.2.1 st.2.2.1 st.2.2.2.1 st.2.2.2.2)
    (fun st => if st.2.2.2.2 ≤ w then hashR tak finQ s.length ⟨st.1, st.2.1, st.2.2.1, st.2.2.2.1⟩ (s.drop st.2.2.2.2.toNat) else finQ ⟨st.1, st.2.1, st.2.2.1, st.2.2.2.1⟩)
    (fun st => ∃ i : Nat, st.2.2.2.2 = i ∧ i % 8 = 0 ∧ i ≤ w + 8) (fun st => (w + 8 - st.2.2.2.2).toNat) ?_ FUEL ((newV k).s.e0, (newV k).s.e1, (newV k).s.e2, (newV k).s.e3, 0) ⟨0, rfl, by omega, by omega⟩ (by rw [FUEL_eq]; simp only; omega)
  · refine Eq.trans key ?_
    simp only [Int.toNat_zero, List.drop_zero]
    rw [if_pos (by omega)]
  rintro ⟨a, b, c, d, p⟩ ⟨i, g1, g2, g3⟩
  simp only at g1 ⊢
  subst g1
  unfold R12_Hash_s2
  by_cases hi : i ≤ w
  · rw [cond_p (by omega), if_pos (show (i : Int) ≤ w by omega), Int.toNat_natCast]
    have e8 : wI .i64 ((i : Int) + 8) = (i : Int) + 8 := wI64 (by omega) (by omega)
    by_cases hl : i = w
    · subst hl
      have e1 : (if (s.length : Int) < (i : Int) + 8 then (s.length : Int) else (i : Int) + 8) = s.length := by rw [if_pos (by omega)]
      have hlen : (s.drop i).length ≤ 7 := by simp; omega
      have et : (s.drop i).take (s.length - i) = s.drop i := List.take_of_length_le (by simp)
      have hv : wrd (s.drop i) < 256 ^ 7 := Nat.lt_of_lt_of_le (wrd_lt _) (Nat.pow_le_pow_right (by decide) hlen)
      have em : wI .u64 ((wrd (s.drop i) : Int) + wI .u64 ((wI .u64 ((s.length : Int).tmod 256)) * 2 ^ 56)) = ((wrd (s.drop i) + s.length % 256 * 2 ^ 56 : Nat) : Int) := by
        rw [Int.tmod_eq_emod_of_nonneg (by omega), wU64 (n := (s.length : Int) % 256) (by omega) (by omega), wU64 (n := (s.length : Int) % 256 * 2 ^ 56) (by omega) (by omega), wU64 (by omega) (by omega)]; omega
      refine .inr ⟨((tak ⟨a, b, c, d⟩ ((wrd (s.drop i) + s.length % 256 * 2 ^ 56 : Nat) : Int)).e0, (tak ⟨a, b, c, d⟩ ((wrd (s.drop i) + s.length % 256 * 2 ^ 56 : Nat) : Int)).e1, (tak ⟨a, b, c, d⟩ ((wrd (s.drop i) + s.length % 256 * 2 ^ 56 : Nat) : Int)).e2, (tak ⟨a, b, c, d⟩ ((wrd (s.drop i) + s.length % 256 * 2 ^ 56 : Nat) : Int)).e3, (i : Int) + 8), ?_, ⟨i + 8, by simp only; omega, by omega, by omega⟩, by simp only; omega, ?_⟩
      · simp only [e8, e1]
        rw [oreq_p (by omega), Int.toNat_natCast, et, word_eq12 (by omega), Option.bind_some, beq_self_eq_true, cond_true, oreq_p (by omega), Option.bind_some, em]
        exact inner12 s (i : Int) (i : Int) a b c d _ (by omega)
      · simp only []
        rw [if_neg (show ¬ (i : Int) + 8 ≤ i by omega), hashR, dif_neg (by omega)]
    · have h8 : i + 8 ≤ s.length := by omega
      have e1 : (if (s.length : Int) < (i : Int) + 8 then (s.length : Int) else (i : Int) + 8) = (i : Int) + 8 := by
        split
        · omega
        · rfl
      have e2 : ((i : Int) + 8).toNat - i = 8 := by omega
      have e3 : ((i : Int) == (w : Int)) = false := by rw [beq_eq_false_iff_ne]; omega
      refine .inr ⟨((tak ⟨a, b, c, d⟩ (wrd ((s.drop i).take 8) : Int)).e0, (tak ⟨a, b, c, d⟩ (wrd ((s.drop i).take 8) : Int)).e1, (tak ⟨a, b, c, d⟩ (wrd ((s.drop i).take 8) : Int)).e2, (tak ⟨a, b, c, d⟩ (wrd ((s.drop i).take 8) : Int)).e3, (i : Int) + 8), ?_, ⟨i + 8, by simp only; omega, by omega, by omega⟩, by simp only; omega, ?_⟩
      · simp only [e8, e1]
        rw [oreq_p (by omega), e2, word_eq12 (by rw [List.length_take]; omega), Option.bind_some, e3, cond_false]
        exact inner12 s (w : Int) (i : Int) a b c d _ (by omega)
      · simp only []
        rw [if_pos (show (i : Int) + 8 ≤ w by omega), show ((i : Int) + 8).toNat = i + 8 by omega]
        conv => rhs; rw [hashR, dif_pos (by simp; omega), List.drop_drop]
  · refine .inl ?_
    rw [cond_n (by omega), if_neg (show ¬ (i : Int) ≤ w by omega), Mix_eq, Option.bind_some, show cnt 4 = 4 from rfl]
    rfl
end Go.Vm.Code

namespace Go.Vm.Code
open Go Go.Vm Go.Proofs
set_option maxRecDepth 100000
set_option maxHeartbeats 4000000
set_option linter.unusedVariables false

/-! (cloakroom/cookie.layout).bits -/
def cookie_layout_bitsF (l : cookie_layout) : Option Int :=
  cond (l.Layout.Wide)
    (
    some (64))
    (
    some (16))
def post93 (x : Int) (v : Value) (H : Hp) : Prop := v = .int .i64 x
def r93 (g : cookie_layout → Option Int) : List SArg → Option SRes
  | [.v (.agg ⟨[.bool a0_1, .int .i64 a0_2, .int .i64 a0_3]⟩)] => match g (cookie_layout.mk (api_Layout.mk a0_1 a0_2 a0_3)) with | some x => some ⟨.int .i64 x, [], []⟩ | none => none
  | _ => none
def s93 (g : cookie_layout → Option Int) : Summ := ⟨[.v], r93 g⟩
theorem r93_eq {g : cookie_layout → Option Int} {a0_1 : Bool} {a0_2 : Int} {a0_3 : Int} {x : Int} (hx : g (cookie_layout.mk (api_Layout.mk a0_1 a0_2 a0_3)) = some x) : (s93 g).run [.v (.agg ⟨[.bool a0_1, .int .i64 a0_2, .int .i64 a0_3]⟩)] = some ⟨.int .i64 x, [], []⟩ := by
  show r93 g [.v (.agg ⟨[.bool a0_1, .int .i64 a0_2, .int .i64 a0_3]⟩)] = _
  simp only [r93, hx]
abbrev sums93 : List (Nat × Summ) := []
theorem leads93 (hS : SumsOK Try.prog (aget (sums93))) (l : cookie_layout) (res : Int) (h : cookie_layout_bitsF l = some res) :
    Leads Try.prog 93 0 ⟨⟨93, 6, [(0, .agg ⟨[.bool l.Layout.Wide, .int .i64 l.Layout.Slot, .int .i64 l.Layout.Gen]⟩)], [.code k93_9], [], false, none⟩, [], [], 0⟩ (fun v H _ => post93 res v H) := by
  unfold cookie_layout_bitsF at h
  refine ev_ok tab_ok hS true 3000 ?_
  conv => whnf
  refine br.h h ?_ ?_ ?_
  · rfl
  · clear h; intro hb h; conv => whnf
    all_goals (cases h)
    all_goals exact rfl
  clear h; intro hb h; conv => whnf
  all_goals (cases h)
  all_goals exact rfl
theorem ok93 (hS : SumsOK Try.prog (aget (sums93))) : SumOK Try.prog 93 (s93 (cookie_layout_bitsF)) := by
  refine SumOK.of_leads tab_ok (fun ar r ha hr => ?_) ⟨Try.f93, rfl, by decide, rfl⟩
  simp only [s93] at ha hr
  unfold r93 at hr
  split at hr <;> try (cases hr; done)
  split at hr <;> cases hr
  rename_i x h
  refine ⟨_, rfl, (leads93 hS _ x h).mono fun v H t hp => ?_⟩
  cases hp
  exact Res.val rfl trivial
def cookie_layout_bits : cookie_layout → Option Int := cookie_layout_bitsF
theorem lift93 : SumOK Try.prog 93 (s93 cookie_layout_bits) := ok93 (SumsOK.of_tab trivial)
end Go.Vm.Code

namespace Go.Vm.Code
open Go Go.Vm Go.Proofs
set_option maxRecDepth 100000
set_option maxHeartbeats 4000000
set_option linter.unusedVariables false

/-! (cloakroom/cookie.layout).may -/
def cookie_layout_mayF (cookie_layout_bits : cookie_layout → Option Int) (l : cookie_layout) : Option Bool :=
  cond (decide (l.Layout.Slot < 0))
    (
    some (false))
    (
    cond (decide (l.Layout.Slot > 12))
      (
      some (false))
      (
      cond (decide (l.Layout.Gen < 0))
        (
        some (false))
        (
        (cookie_layout_bits l).bind fun b =>
        let t := wI .i64 ((if 63 < b then 63 else b) - l.Layout.Slot)
        some (decide (l.Layout.Gen ≤ t)))))
def post92 (x : Bool) (v : Value) (H : Hp) : Prop := v = .bool x
def r92 (g : cookie_layout → Option Bool) : List SArg → Option SRes
  | [.v (.agg ⟨[.bool a0_1, .int .i64 a0_2, .int .i64 a0_3]⟩)] => match g (cookie_layout.mk (api_Layout.mk a0_1 a0_2 a0_3)) with | some x => some ⟨.bool x, [], []⟩ | none => none
  | _ => none
def s92 (g : cookie_layout → Option Bool) : Summ := ⟨[.v], r92 g⟩
theorem r92_eq {g : cookie_layout → Option Bool} {a0_1 : Bool} {a0_2 : Int} {a0_3 : Int} {x : Bool} (hx : g (cookie_layout.mk (api_Layout.mk a0_1 a0_2 a0_3)) = some x) : (s92 g).run [.v (.agg ⟨[.bool a0_1, .int .i64 a0_2, .int .i64 a0_3]⟩)] = some ⟨.bool x, [], []⟩ := by
  show r92 g [.v (.agg ⟨[.bool a0_1, .int .i64 a0_2, .int .i64 a0_3]⟩)] = _
  simp only [r92, hx]
abbrev sums92 (cookie_layout_bits : cookie_layout → Option Int) : List (Nat × Summ) := [(93, s93 cookie_layout_bits)]
theorem leads92 (cookie_layout_bits : cookie_layout → Option Int) (hS : SumsOK Try.prog (aget (sums92 cookie_layout_bits))) (l : cookie_layout) (res : Bool) (h : cookie_layout_mayF cookie_layout_bits l = some res) :
    Leads Try.prog 92 0 ⟨⟨92, 30, [(0, .agg ⟨[.bool l.Layout.Wide, .int .i64 l.Layout.Slot, .int .i64 l.Layout.Gen]⟩)], [.code k92_9], [], false, none⟩, [], [], 0⟩ (fun v H _ => post92 res v H) := by
  unfold cookie_layout_mayF at h
  refine ev_ok tab_ok hS true 3000 ?_
  conv => whnf
  refine br.h h ?_ ?_ ?_
  · rfl
  · clear h; intro hb h; conv => whnf
    all_goals (cases h)
    all_goals exact rfl
  clear h; intro hb h; conv => whnf
  refine br.h h ?_ ?_ ?_
  · rfl
  · clear h; intro hb h; conv => whnf
    all_goals (cases h)
    all_goals exact rfl
  clear h; intro hb h; conv => whnf
  refine br.h h ?_ ?_ ?_
  · rfl
  · clear h; intro hb h; conv => whnf
    all_goals (cases h)
    all_goals exact rfl
  clear h; intro hb h; conv => whnf
  obtain ⟨b, hy, h2⟩ := obind.elim h; clear h; have h := h2; clear h2
  refine sumK.introF [] (sumRun_of (aqs := [.v (.agg ⟨[.bool l.Layout.Wide, .int .i64 l.Layout.Slot, .int .i64 l.Layout.Gen]⟩)]) (ra_cons rfl ra_nil) (r93_eq hy) rfl rfl rfl rfl) ?_
  conv => whnf
  let t : Int := wI .i64 ((if 63 < b then 63 else b) - l.Layout.Slot)
  all_goals (cases h)
  all_goals exact rfl
theorem ok92 (cookie_layout_bits : cookie_layout → Option Int) (hS : SumsOK Try.prog (aget (sums92 cookie_layout_bits))) : SumOK Try.prog 92 (s92 (cookie_layout_mayF cookie_layout_bits)) := by
  refine SumOK.of_leads tab_ok (fun ar r ha hr => ?_) ⟨Try.f92, rfl, by decide, rfl⟩
  simp only [s92] at ha hr
  unfold r92 at hr
  split at hr <;> try (cases hr; done)
  split at hr <;> cases hr
  rename_i x h
  refine ⟨_, rfl, (leads92 cookie_layout_bits hS _ x h).mono fun v H t hp => ?_⟩
  cases hp
  exact Res.val rfl trivial
def cookie_layout_may : cookie_layout → Option Bool := cookie_layout_mayF cookie_layout_bits
theorem lift92 : SumOK Try.prog 92 (s92 cookie_layout_may) := ok92 cookie_layout_bits (SumsOK.of_tab ⟨lift93, trivial⟩)
end Go.Vm.Code

namespace Go.Vm.Code
open Go Go.Vm Go.Proofs
set_option maxRecDepth 100000
set_option maxHeartbeats 4000000
set_option linter.unusedVariables false

/-! cloakroom/cookie.Right -/
def cookie_RightF (cookie_layout_may : cookie_layout → Option Bool) (l : api_Layout) : Option Bool :=
  (cookie_layout_may (cookie_layout.mk l)).bind fun m =>
  some (m)
def post38 (x : Bool) (v : Value) (H : Hp) : Prop := v = .bool x
def r38 (g : api_Layout → Option Bool) : List SArg → Option SRes
  | [.v (.agg ⟨[.bool a0_1, .int .i64 a0_2, .int .i64 a0_3]⟩)] => match g (api_Layout.mk a0_1 a0_2 a0_3) with | some x => some ⟨.bool x, [], []⟩ | none => none
  | _ => none
def s38 (g : api_Layout → Option Bool) : Summ := ⟨[.v], r38 g⟩
theorem r38_eq {g : api_Layout → Option Bool} {a0_1 : Bool} {a0_2 : Int} {a0_3 : Int} {x : Bool} (hx : g (api_Layout.mk a0_1 a0_2 a0_3) = some x) : (s38 g).run [.v (.agg ⟨[.bool a0_1, .int .i64 a0_2, .int .i64 a0_3]⟩)] = some ⟨.bool x, [], []⟩ := by
  show r38 g [.v (.agg ⟨[.bool a0_1, .int .i64 a0_2, .int .i64 a0_3]⟩)] = _
  simp only [r38, hx]
abbrev sums38 (cookie_layout_may : cookie_layout → Option Bool) : List (Nat × Summ) := [(92, s92 cookie_layout_may)]
theorem leads38 (cookie_layout_may : cookie_layout → Option Bool) (hS : SumsOK Try.prog (aget (sums38 cookie_layout_may))) (l : api_Layout) (res : Bool) (h : cookie_RightF cookie_layout_may l = some res) :
    Leads Try.prog 38 0 ⟨⟨38, 6, [(0, .agg ⟨[.bool l.Wide, .int .i64 l.Slot, .int .i64 l.Gen]⟩)], [.code k38_3], [], false, none⟩, [], [], 0⟩ (fun v H _ => post38 res v H) := by
  unfold cookie_RightF at h
  refine ev_ok tab_ok hS true 3000 ?_
  conv => whnf
  obtain ⟨m, hy, h2⟩ := obind.elim h; clear h; have h := h2; clear h2
  refine sumK.introF [] (sumRun_of (aqs := [.v (.agg ⟨[.bool l.Wide, .int .i64 l.Slot, .int .i64 l.Gen]⟩)]) (ra_cons rfl ra_nil) (r92_eq hy) rfl rfl rfl rfl) ?_
  conv => whnf
  all_goals (cases h)
  all_goals exact rfl
theorem ok38 (cookie_layout_may : cookie_layout → Option Bool) (hS : SumsOK Try.prog (aget (sums38 cookie_layout_may))) : SumOK Try.prog 38 (s38 (cookie_RightF cookie_layout_may)) := by
  refine SumOK.of_leads tab_ok (fun ar r ha hr => ?_) ⟨Try.f38, rfl, by decide, rfl⟩
  simp only [s38] at ha hr
  unfold r38 at hr
  split at hr <;> try (cases hr; done)
  split at hr <;> cases hr
  rename_i x h
  refine ⟨_, rfl, (leads38 cookie_layout_may hS _ x h).mono fun v H t hp => ?_⟩
  cases hp
  exact Res.val rfl trivial
def cookie_Right : api_Layout → Option Bool := cookie_RightF cookie_layout_may
theorem lift38 : SumOK Try.prog 38 (s38 cookie_Right) := ok38 cookie_layout_may (SumsOK.of_tab ⟨lift92, trivial⟩)
end Go.Vm.Code

namespace Go.Vm.Code
open Go Go.Vm Go.Proofs
set_option maxRecDepth 100000
set_option maxHeartbeats 4000000
set_option linter.unusedVariables false

/-! cloakroom/cookie.Pack -/
def cookie_PackF (cookie_Right : api_Layout → Option Bool) (num_Mask : Int → Option Int) (l : api_Layout) (slot : Int) (gen : Int) : Option (Int × Bool) :=
  (cookie_Right l).bind fun xr =>
  cond (!xr)
    (
    some ((0, false)))
    (
    cond (decide (slot < 0))
      (
      some ((0, false)))
      (
      oreq (decide (0 ≤ l.Slot)) <|
      let t := (slot.fdiv (2 ^ (min l.Slot.toNat 64))) != 0
      cond (t)
        (
        some ((0, false)))
        (
        (num_Mask l.Gen).bind fun m =>
        oreq (decide (0 ≤ l.Slot)) <|
        let t1 := wI .u64 ((andI .u64 gen m) * 2 ^ (min l.Slot.toNat 64))
        some ((iorI .u64 t1 (wI .u64 slot), true)))))
def post30 (x : Int × Bool) (v : Value) (H : Hp) : Prop := v = .tuple ⟨[.int .u64 x.1, .bool x.2]⟩
def r30 (g : api_Layout → Int → Int → Option (Int × Bool)) : List SArg → Option SRes
  | [.v (.agg ⟨[.bool a0_1, .int .i64 a0_2, .int .i64 a0_3]⟩), .v (.int .i64 a1_1), .v (.int .u64 a2_1)] => match g (api_Layout.mk a0_1 a0_2 a0_3) a1_1 a2_1 with | some x => some ⟨.tuple ⟨[.int .u64 x.1, .bool x.2]⟩, [], []⟩ | none => none
  | _ => none
def s30 (g : api_Layout → Int → Int → Option (Int × Bool)) : Summ := ⟨[.v, .v, .v], r30 g⟩
theorem r30_eq {g : api_Layout → Int → Int → Option (Int × Bool)} {a0_1 : Bool} {a0_2 : Int} {a0_3 : Int} {a1_1 : Int} {a2_1 : Int} {x : Int × Bool} (hx : g (api_Layout.mk a0_1 a0_2 a0_3) a1_1 a2_1 = some x) : (s30 g).run [.v (.agg ⟨[.bool a0_1, .int .i64 a0_2, .int .i64 a0_3]⟩), .v (.int .i64 a1_1), .v (.int .u64 a2_1)] = some ⟨.tuple ⟨[.int .u64 x.1, .bool x.2]⟩, [], []⟩ := by
  show r30 g [.v (.agg ⟨[.bool a0_1, .int .i64 a0_2, .int .i64 a0_3]⟩), .v (.int .i64 a1_1), .v (.int .u64 a2_1)] = _
  simp only [r30, hx]
abbrev sums30 (cookie_Right : api_Layout → Option Bool) (num_Mask : Int → Option Int) : List (Nat × Summ) := [(38, s38 cookie_Right), (90, s90 num_Mask)]
theorem leads30 (cookie_Right : api_Layout → Option Bool) (num_Mask : Int → Option Int) (hS : SumsOK Try.prog (aget (sums30 cookie_Right num_Mask))) (l : api_Layout) (slot : Int) (gen : Int) (res : Int × Bool) (h : cookie_PackF cookie_Right num_Mask l slot gen = some res) :
    Leads Try.prog 30 0 ⟨⟨30, 33, [(0, .agg ⟨[.bool l.Wide, .int .i64 l.Slot, .int .i64 l.Gen]⟩), (1, .int .i64 slot), (2, .int .u64 gen)], [.code k30_9], [], false, none⟩, [], [], 0⟩ (fun v H _ => post30 res v H) := by
  unfold cookie_PackF at h
  refine ev_ok tab_ok hS true 3000 ?_
  conv => whnf
  obtain ⟨xr, hy, h2⟩ := obind.elim h; clear h; have h := h2; clear h2
  refine sumK.introF [] (sumRun_of (aqs := [.v (.agg ⟨[.bool l.Wide, .int .i64 l.Slot, .int .i64 l.Gen]⟩)]) (ra_cons rfl ra_nil) (r38_eq hy) rfl rfl rfl rfl) ?_
  conv => whnf
  refine br.h h ?_ ?_ ?_
  · rfl
  · clear h; intro hb h; conv => whnf
    all_goals (cases h)
    all_goals exact rfl
  clear h; intro hb h; conv => whnf
  refine br.h h ?_ ?_ ?_
  · rfl
  · clear h; intro hb h; conv => whnf
    all_goals (cases h)
    all_goals exact rfl
  clear h; intro hb h; conv => whnf
  replace h := oreq.elim h; have hb := h.1; replace h := h.2
  first | (refine req.intro hb ?_; conv => whnf) | skip
  let t : Bool := (slot.fdiv (2 ^ (min l.Slot.toNat 64))) != 0
  refine br.h h ?_ ?_ ?_
  · rfl
  · clear h; intro hb h; conv => whnf
    all_goals (cases h)
    all_goals exact rfl
  clear h; intro hb h; conv => whnf
  obtain ⟨m, hy, h2⟩ := obind.elim h; clear h; have h := h2; clear h2
  refine sumK.introF [] (sumRun_of (aqs := [.v (.int .i64 l.Gen)]) (ra_cons rfl ra_nil) (r90_eq hy) rfl rfl rfl rfl) ?_
  conv => whnf
  replace h := oreq.elim h; have hb := h.1; replace h := h.2
  first | (refine req.intro hb ?_; conv => whnf) | skip
  let t1 : Int := wI .u64 ((andI .u64 gen m) * 2 ^ (min l.Slot.toNat 64))
  all_goals (cases h)
  all_goals exact rfl
theorem ok30 (cookie_Right : api_Layout → Option Bool) (num_Mask : Int → Option Int) (hS : SumsOK Try.prog (aget (sums30 cookie_Right num_Mask))) : SumOK Try.prog 30 (s30 (cookie_PackF cookie_Right num_Mask)) := by
  refine SumOK.of_leads tab_ok (fun ar r ha hr => ?_) ⟨Try.f30, rfl, by decide, rfl⟩
  simp only [s30] at ha hr
  unfold r30 at hr
  split at hr <;> try (cases hr; done)
  split at hr <;> cases hr
  rename_i x h
  refine ⟨_, rfl, (leads30 cookie_Right num_Mask hS _ _ _ x h).mono fun v H t hp => ?_⟩
  cases hp
  exact Res.val rfl trivial
def cookie_Pack : api_Layout → Int → Int → Option (Int × Bool) := cookie_PackF cookie_Right num_Mask
theorem lift30 : SumOK Try.prog 30 (s30 cookie_Pack) := ok30 cookie_Right num_Mask (SumsOK.of_tab ⟨lift38, lift90, trivial⟩)
end Go.Vm.Code

namespace Go.Vm.Code
open Go Go.Vm Go.Proofs
set_option maxRecDepth 100000
set_option maxHeartbeats 4000000
set_option linter.unusedVariables false

/-! cloakroom/cookie.Width -/
def cookie_WidthF (cookie_Right : api_Layout → Option Bool) (cookie_layout_bits : cookie_layout → Option Int) (l : api_Layout) : Option Int :=
  (cookie_Right l).bind fun xr =>
  cond (!xr)
    (
    some (0))
    (
    (cookie_layout_bits (cookie_layout.mk l)).bind fun b =>
    some (b))
def post40 (x : Int) (v : Value) (H : Hp) : Prop := v = .int .i64 x
def r40 (g : api_Layout → Option Int) : List SArg → Option SRes
  | [.v (.agg ⟨[.bool a0_1, .int .i64 a0_2, .int .i64 a0_3]⟩)] => match g (api_Layout.mk a0_1 a0_2 a0_3) with | some x => some ⟨.int .i64 x, [], []⟩ | none => none
  | _ => none
def s40 (g : api_Layout → Option Int) : Summ := ⟨[.v], r40 g⟩
theorem r40_eq {g : api_Layout → Option Int} {a0_1 : Bool} {a0_2 : Int} {a0_3 : Int} {x : Int} (hx : g (api_Layout.mk a0_1 a0_2 a0_3) = some x) : (s40 g).run [.v (.agg ⟨[.bool a0_1, .int .i64 a0_2, .int .i64 a0_3]⟩)] = some ⟨.int .i64 x, [], []⟩ := by
  show r40 g [.v (.agg ⟨[.bool a0_1, .int .i64 a0_2, .int .i64 a0_3]⟩)] = _
  simp only [r40, hx]
abbrev sums40 (cookie_Right : api_Layout → Option Bool) (cookie_layout_bits : cookie_layout → Option Int) : List (Nat × Summ) := [(38, s38 cookie_Right), (93, s93 cookie_layout_bits)]
theorem leads40 (cookie_Right : api_Layout → Option Bool) (cookie_layout_bits : cookie_layout → Option Int) (hS : SumsOK Try.prog (aget (sums40 cookie_Right cookie_layout_bits))) (l : api_Layout) (res : Int) (h : cookie_WidthF cookie_Right cookie_layout_bits l = some res) :
    Leads Try.prog 40 0 ⟨⟨40, 9, [(0, .agg ⟨[.bool l.Wide, .int .i64 l.Slot, .int .i64 l.Gen]⟩)], [.code k40_9], [], false, none⟩, [], [], 0⟩ (fun v H _ => post40 res v H) := by
  unfold cookie_WidthF at h
  refine ev_ok tab_ok hS true 3000 ?_
  conv => whnf
  obtain ⟨xr, hy, h2⟩ := obind.elim h; clear h; have h := h2; clear h2
  refine sumK.introF [] (sumRun_of (aqs := [.v (.agg ⟨[.bool l.Wide, .int .i64 l.Slot, .int .i64 l.Gen]⟩)]) (ra_cons rfl ra_nil) (r38_eq hy) rfl rfl rfl rfl) ?_
  conv => whnf
  refine br.h h ?_ ?_ ?_
  · rfl
  · clear h; intro hb h; conv => whnf
    all_goals (cases h)
    all_goals exact rfl
  clear h; intro hb h; conv => whnf
  obtain ⟨b, hy, h2⟩ := obind.elim h; clear h; have h := h2; clear h2
  refine sumK.introF [] (sumRun_of (aqs := [.v (.agg ⟨[.bool l.Wide, .int .i64 l.Slot, .int .i64 l.Gen]⟩)]) (ra_cons rfl ra_nil) (r93_eq hy) rfl rfl rfl rfl) ?_
  conv => whnf
  all_goals (cases h)
  all_goals exact rfl
theorem ok40 (cookie_Right : api_Layout → Option Bool) (cookie_layout_bits : cookie_layout → Option Int) (hS : SumsOK Try.prog (aget (sums40 cookie_Right cookie_layout_bits))) : SumOK Try.prog 40 (s40 (cookie_WidthF cookie_Right cookie_layout_bits)) := by
  refine SumOK.of_leads tab_ok (fun ar r ha hr => ?_) ⟨Try.f40, rfl, by decide, rfl⟩
  simp only [s40] at ha hr
  unfold r40 at hr
  split at hr <;> try (cases hr; done)
  split at hr <;> cases hr
  rename_i x h
  refine ⟨_, rfl, (leads40 cookie_Right cookie_layout_bits hS _ x h).mono fun v H t hp => ?_⟩
  cases hp
  exact Res.val rfl trivial
def cookie_Width : api_Layout → Option Int := cookie_WidthF cookie_Right cookie_layout_bits
theorem lift40 : SumOK Try.prog 40 (s40 cookie_Width) := ok40 cookie_Right cookie_layout_bits (SumsOK.of_tab ⟨lift38, lift93, trivial⟩)
end Go.Vm.Code

namespace Go.Vm.Code
open Go Go.Vm Go.Proofs
set_option maxRecDepth 100000
set_option maxHeartbeats 4000000
set_option linter.unusedVariables false

/-! cloakroom/cookie.Mask -/
def cookie_MaskF (cookie_Width : api_Layout → Option Int) (num_Mask : Int → Option Int) (sip_Hasher_Sum : sip_Hasher → Option (Int × sip_Hasher)) (sip_Hasher_Write : sip_Hasher → (List UInt8) → Option sip_Hasher) (sip_New : api_Key → Option sip_Hasher) (tuple_Put : api_Tuple → Option (List UInt8)) (l : api_Layout) (k : api_Key) (t : api_Tuple) (n : Int) : Option Int :=
  (sip_New k).bind fun n1 =>
  (tuple_Put t).bind fun p =>
  (sip_Hasher_Write n1 p).bind fun w =>
  (sip_Hasher_Sum w).bind fun s =>
  (cookie_Width l).bind fun w1 =>
  (num_Mask w1).bind fun m =>
  some (andI .u64 (ixorI .u64 n s.1) m)
def post42 (x : Int) (v : Value) (H : Hp) : Prop := v = .int .u64 x
def r42 (g : api_Layout → api_Key → api_Tuple → Int → Option Int) : List SArg → Option SRes
  | [.v (.agg ⟨[.bool a0_1, .int .i64 a0_2, .int .i64 a0_3]⟩), .v (.agg ⟨[.int .u64 a1_1, .int .u64 a1_2]⟩), .v (.agg ⟨[.int .i64 a2_1, .bool a2_2, .int .u64 a2_3, .int .u64 a2_4, .bool a2_5, .int .u64 a2_6, .int .u64 a2_7, .int .i64 a2_8, .int .i64 a2_9]⟩), .v (.int .u64 a3_1)] => match g (api_Layout.mk a0_1 a0_2 a0_3) (api_Key.mk a1_1 a1_2) (api_Tuple.mk a2_1 (api_Addr.mk a2_2 a2_3 a2_4) (api_Addr.mk a2_5 a2_6 a2_7) a2_8 a2_9) a3_1 with | some x => some ⟨.int .u64 x, [], []⟩ | none => none
  | _ => none
def s42 (g : api_Layout → api_Key → api_Tuple → Int → Option Int) : Summ := ⟨[.v, .v, .v, .v], r42 g⟩
theorem r42_eq {g : api_Layout → api_Key → api_Tuple → Int → Option Int} {a0_1 : Bool} {a0_2 : Int} {a0_3 : Int} {a1_1 : Int} {a1_2 : Int} {a2_1 : Int} {a2_2 : Bool} {a2_3 : Int} {a2_4 : Int} {a2_5 : Bool} {a2_6 : Int} {a2_7 : Int} {a2_8 : Int} {a2_9 : Int} {a3_1 : Int} {x : Int} (hx : g (api_Layout.mk a0_1 a0_2 a0_3) (api_Key.mk a1_1 a1_2) (api_Tuple.mk a2_1 (api_Addr.mk a2_2 a2_3 a2_4) (api_Addr.mk a2_5 a2_6 a2_7) a2_8 a2_9) a3_1 = some x) : (s42 g).run [.v (.agg ⟨[.bool a0_1, .int .i64 a0_2, .int .i64 a0_3]⟩), .v (.agg ⟨[.int .u64 a1_1, .int .u64 a1_2]⟩), .v (.agg ⟨[.int .i64 a2_1, .bool a2_2, .int .u64 a2_3, .int .u64 a2_4, .bool a2_5, .int .u64 a2_6, .int .u64 a2_7, .int .i64 a2_8, .int .i64 a2_9]⟩), .v (.int .u64 a3_1)] = some ⟨.int .u64 x, [], []⟩ := by
  show r42 g [.v (.agg ⟨[.bool a0_1, .int .i64 a0_2, .int .i64 a0_3]⟩), .v (.agg ⟨[.int .u64 a1_1, .int .u64 a1_2]⟩), .v (.agg ⟨[.int .i64 a2_1, .bool a2_2, .int .u64 a2_3, .int .u64 a2_4, .bool a2_5, .int .u64 a2_6, .int .u64 a2_7, .int .i64 a2_8, .int .i64 a2_9]⟩), .v (.int .u64 a3_1)] = _
  simp only [r42, hx]
abbrev sums42 (cookie_Width : api_Layout → Option Int) (num_Mask : Int → Option Int) (sip_Hasher_Sum : sip_Hasher → Option (Int × sip_Hasher)) (sip_Hasher_Write : sip_Hasher → (List UInt8) → Option sip_Hasher) (sip_New : api_Key → Option sip_Hasher) (tuple_Put : api_Tuple → Option (List UInt8)) : List (Nat × Summ) := [(40, s40 cookie_Width), (90, s90 num_Mask), (97, s97 sip_Hasher_Sum), (95, s95 sip_Hasher_Write), (94, s94 sip_New), (96, s96 tuple_Put)]
theorem leads42 (cookie_Width : api_Layout → Option Int) (num_Mask : Int → Option Int) (sip_Hasher_Sum : sip_Hasher → Option (Int × sip_Hasher)) (sip_Hasher_Write : sip_Hasher → (List UInt8) → Option sip_Hasher) (sip_New : api_Key → Option sip_Hasher) (tuple_Put : api_Tuple → Option (List UInt8)) (hS : SumsOK Try.prog (aget (sums42 cookie_Width num_Mask sip_Hasher_Sum sip_Hasher_Write sip_New tuple_Put))) (l : api_Layout) (k : api_Key) (t : api_Tuple) (n : Int) (res : Int) (h : cookie_MaskF cookie_Width num_Mask sip_Hasher_Sum sip_Hasher_Write sip_New tuple_Put l k t n = some res) :
    Leads Try.prog 42 0 ⟨⟨42, 24, [(0, .agg ⟨[.bool l.Wide, .int .i64 l.Slot, .int .i64 l.Gen]⟩), (1, .agg ⟨[.int .u64 k.A, .int .u64 k.B]⟩), (2, .agg ⟨[.int .i64 t.Proto, .bool t.Src.V6, .int .u64 t.Src.Hi, .int .u64 t.Src.Lo, .bool t.Dst.V6, .int .u64 t.Dst.Hi, .int .u64 t.Dst.Lo, .int .i64 t.SPort, .int .i64 t.DPort]⟩), (3, .int .u64 n)], [.code k42_7], [], false, none⟩, [], [], 0⟩ (fun v H _ => post42 res v H) := by
  unfold cookie_MaskF at h
  refine ev_ok tab_ok hS true 3000 ?_
  conv => whnf
  obtain ⟨n1, hy, h2⟩ := obind.elim h; clear h; have h := h2; clear h2
  refine sumK.introF [] (sumRun_of (aqs := [.v (.agg ⟨[.int .u64 k.A, .int .u64 k.B]⟩)]) (ra_cons rfl ra_nil) (r94_eq hy) rfl rfl rfl rfl) ?_
  conv => whnf
  obtain ⟨p, hy, h2⟩ := obind.elim h; clear h; have h := h2; clear h2
  refine sumK.introF [] (sumRun_of (aqs := [.v (.agg ⟨[.int .i64 t.Proto, .bool t.Src.V6, .int .u64 t.Src.Hi, .int .u64 t.Src.Lo, .bool t.Dst.V6, .int .u64 t.Dst.Hi, .int .u64 t.Dst.Lo, .int .i64 t.SPort, .int .i64 t.DPort]⟩)]) (ra_cons rfl ra_nil) (r96_eq hy) rfl rfl rfl rfl) ?_
  conv => whnf
  obtain ⟨w, hy, h2⟩ := obind.elim h; clear h; have h := h2; clear h2
  refine sumK.introF [3] (sumRun_of (aqs := [.pt [.bool n1.made, .int .u64 n1.s.e0, .int .u64 n1.s.e1, .int .u64 n1.s.e2, .int .u64 n1.s.e3, .int .u64 n1.last, .int .i64 n1.count], .v (.string ⟨⟨p⟩⟩)]) (ra_cons rfl (ra_cons rfl ra_nil)) (r95_eq hy) rfl rfl rfl rfl) ?_
  conv => whnf
  obtain ⟨s, hy, h2⟩ := obind.elim h; clear h; have h := h2; clear h2
  refine sumK.introF [3] (sumRun_of (aqs := [.pt [.bool w.made, .int .u64 w.s.e0, .int .u64 w.s.e1, .int .u64 w.s.e2, .int .u64 w.s.e3, .int .u64 w.last, .int .i64 w.count]]) (ra_cons rfl ra_nil) (r97_eq hy) rfl rfl rfl rfl) ?_
  conv => whnf
  obtain ⟨w1, hy, h2⟩ := obind.elim h; clear h; have h := h2; clear h2
  refine sumK.introF [] (sumRun_of (aqs := [.v (.agg ⟨[.bool l.Wide, .int .i64 l.Slot, .int .i64 l.Gen]⟩)]) (ra_cons rfl ra_nil) (r40_eq hy) rfl rfl rfl rfl) ?_
  conv => whnf
  obtain ⟨m, hy, h2⟩ := obind.elim h; clear h; have h := h2; clear h2
  refine sumK.introF [] (sumRun_of (aqs := [.v (.int .i64 w1)]) (ra_cons rfl ra_nil) (r90_eq hy) rfl rfl rfl rfl) ?_
  conv => whnf
  all_goals (cases h)
  all_goals exact rfl
theorem ok42 (cookie_Width : api_Layout → Option Int) (num_Mask : Int → Option Int) (sip_Hasher_Sum : sip_Hasher → Option (Int × sip_Hasher)) (sip_Hasher_Write : sip_Hasher → (List UInt8) → Option sip_Hasher) (sip_New : api_Key → Option sip_Hasher) (tuple_Put : api_Tuple → Option (List UInt8)) (hS : SumsOK Try.prog (aget (sums42 cookie_Width num_Mask sip_Hasher_Sum sip_Hasher_Write sip_New tuple_Put))) : SumOK Try.prog 42 (s42 (cookie_MaskF cookie_Width num_Mask sip_Hasher_Sum sip_Hasher_Write sip_New tuple_Put)) := by
  refine SumOK.of_leads tab_ok (fun ar r ha hr => ?_) ⟨Try.f42, rfl, by decide, rfl⟩
  simp only [s42] at ha hr
  unfold r42 at hr
  split at hr <;> try (cases hr; done)
  split at hr <;> cases hr
  rename_i x h
  refine ⟨_, rfl, (leads42 cookie_Width num_Mask sip_Hasher_Sum sip_Hasher_Write sip_New tuple_Put hS _ _ _ _ x h).mono fun v H t hp => ?_⟩
  cases hp
  exact Res.val rfl trivial
def cookie_Mask : api_Layout → api_Key → api_Tuple → Int → Option Int := cookie_MaskF cookie_Width num_Mask sip_Hasher_Sum sip_Hasher_Write sip_New tuple_Put
theorem lift42 : SumOK Try.prog 42 (s42 cookie_Mask) := ok42 cookie_Width num_Mask sip_Hasher_Sum sip_Hasher_Write sip_New tuple_Put (SumsOK.of_tab ⟨lift40, lift90, lift97, lift95, lift94, lift96, trivial⟩)
end Go.Vm.Code

namespace Go.Vm.Code
open Go Go.Vm Go.Proofs
set_option maxRecDepth 100000
set_option maxHeartbeats 4000000
set_option linter.unusedVariables false

/-! cloakroom/cookie.Make -/
def cookie_MakeF (cookie_Mask : api_Layout → api_Key → api_Tuple → Int → Option Int) (cookie_Pack : api_Layout → Int → Int → Option (Int × Bool)) (l : api_Layout) (k : api_Key) (t : api_Tuple) (slot : Int) (gen : Int) : Option (Int × Bool) :=
  (cookie_Pack l slot gen).bind fun p =>
  cond (!p.2)
    (
    some ((0, false)))
    (
    (cookie_Mask l k t p.1).bind fun m =>
    some ((m, true)))
def post34 (x : Int × Bool) (v : Value) (H : Hp) : Prop := v = .tuple ⟨[.int .u64 x.1, .bool x.2]⟩
def r34 (g : api_Layout → api_Key → api_Tuple → Int → Int → Option (Int × Bool)) : List SArg → Option SRes
  | [.v (.agg ⟨[.bool a0_1, .int .i64 a0_2, .int .i64 a0_3]⟩), .v (.agg ⟨[.int .u64 a1_1, .int .u64 a1_2]⟩), .v (.agg ⟨[.int .i64 a2_1, .bool a2_2, .int .u64 a2_3, .int .u64 a2_4, .bool a2_5, .int .u64 a2_6, .int .u64 a2_7, .int .i64 a2_8, .int .i64 a2_9]⟩), .v (.int .i64 a3_1), .v (.int .u64 a4_1)] => match g (api_Layout.mk a0_1 a0_2 a0_3) (api_Key.mk a1_1 a1_2) (api_Tuple.mk a2_1 (api_Addr.mk a2_2 a2_3 a2_4) (api_Addr.mk a2_5 a2_6 a2_7) a2_8 a2_9) a3_1 a4_1 with | some x => some ⟨.tuple ⟨[.int .u64 x.1, .bool x.2]⟩, [], []⟩ | none => none
  | _ => none
def s34 (g : api_Layout → api_Key → api_Tuple → Int → Int → Option (Int × Bool)) : Summ := ⟨[.v, .v, .v, .v, .v], r34 g⟩
theorem r34_eq {g : api_Layout → api_Key → api_Tuple → Int → Int → Option (Int × Bool)} {a0_1 : Bool} {a0_2 : Int} {a0_3 : Int} {a1_1 : Int} {a1_2 : Int} {a2_1 : Int} {a2_2 : Bool} {a2_3 : Int} {a2_4 : Int} {a2_5 : Bool} {a2_6 : Int} {a2_7 : Int} {a2_8 : Int} {a2_9 : Int} {a3_1 : Int} {a4_1 : Int} {x : Int × Bool} (hx : g (api_Layout.mk a0_1 a0_2 a0_3) (api_Key.mk a1_1 a1_2) (api_Tuple.mk a2_1 (api_Addr.mk a2_2 a2_3 a2_4) (api_Addr.mk a2_5 a2_6 a2_7) a2_8 a2_9) a3_1 a4_1 = some x) : (s34 g).run [.v (.agg ⟨[.bool a0_1, .int .i64 a0_2, .int .i64 a0_3]⟩), .v (.agg ⟨[.int .u64 a1_1, .int .u64 a1_2]⟩), .v (.agg ⟨[.int .i64 a2_1, .bool a2_2, .int .u64 a2_3, .int .u64 a2_4, .bool a2_5, .int .u64 a2_6, .int .u64 a2_7, .int .i64 a2_8, .int .i64 a2_9]⟩), .v (.int .i64 a3_1), .v (.int .u64 a4_1)] = some ⟨.tuple ⟨[.int .u64 x.1, .bool x.2]⟩, [], []⟩ := by
  show r34 g [.v (.agg ⟨[.bool a0_1, .int .i64 a0_2, .int .i64 a0_3]⟩), .v (.agg ⟨[.int .u64 a1_1, .int .u64 a1_2]⟩), .v (.agg ⟨[.int .i64 a2_1, .bool a2_2, .int .u64 a2_3, .int .u64 a2_4, .bool a2_5, .int .u64 a2_6, .int .u64 a2_7, .int .i64 a2_8, .int .i64 a2_9]⟩), .v (.int .i64 a3_1), .v (.int .u64 a4_1)] = _
  simp only [r34, hx]
abbrev sums34 (cookie_Mask : api_Layout → api_Key → api_Tuple → Int → Option Int) (cookie_Pack : api_Layout → Int → Int → Option (Int × Bool)) : List (Nat × Summ) := [(42, s42 cookie_Mask), (30, s30 cookie_Pack)]
theorem leads34 (cookie_Mask : api_Layout → api_Key → api_Tuple → Int → Option Int) (cookie_Pack : api_Layout → Int → Int → Option (Int × Bool)) (hS : SumsOK Try.prog (aget (sums34 cookie_Mask cookie_Pack))) (l : api_Layout) (k : api_Key) (t : api_Tuple) (slot : Int) (gen : Int) (res : Int × Bool) (h : cookie_MakeF cookie_Mask cookie_Pack l k t slot gen = some res) :
    Leads Try.prog 34 0 ⟨⟨34, 28, [(0, .agg ⟨[.bool l.Wide, .int .i64 l.Slot, .int .i64 l.Gen]⟩), (1, .agg ⟨[.int .u64 k.A, .int .u64 k.B]⟩), (2, .agg ⟨[.int .i64 t.Proto, .bool t.Src.V6, .int .u64 t.Src.Hi, .int .u64 t.Src.Lo, .bool t.Dst.V6, .int .u64 t.Dst.Hi, .int .u64 t.Dst.Lo, .int .i64 t.SPort, .int .i64 t.DPort]⟩), (3, .int .i64 slot), (4, .int .u64 gen)], [.code k34_11], [], false, none⟩, [], [], 0⟩ (fun v H _ => post34 res v H) := by
  unfold cookie_MakeF at h
  refine ev_ok tab_ok hS true 3000 ?_
  conv => whnf
  obtain ⟨p, hy, h2⟩ := obind.elim h; clear h; have h := h2; clear h2
  refine sumK.introF [] (sumRun_of (aqs := [.v (.agg ⟨[.bool l.Wide, .int .i64 l.Slot, .int .i64 l.Gen]⟩), .v (.int .i64 slot), .v (.int .u64 gen)]) (ra_cons rfl (ra_cons rfl (ra_cons rfl ra_nil))) (r30_eq hy) rfl rfl rfl rfl) ?_
  conv => whnf
  refine br.h h ?_ ?_ ?_
  · rfl
  · clear h; intro hb h; conv => whnf
    all_goals (cases h)
    all_goals exact rfl
  clear h; intro hb h; conv => whnf
  obtain ⟨m, hy, h2⟩ := obind.elim h; clear h; have h := h2; clear h2
  refine sumK.introF [] (sumRun_of (aqs := [.v (.agg ⟨[.bool l.Wide, .int .i64 l.Slot, .int .i64 l.Gen]⟩), .v (.agg ⟨[.int .u64 k.A, .int .u64 k.B]⟩), .v (.agg ⟨[.int .i64 t.Proto, .bool t.Src.V6, .int .u64 t.Src.Hi, .int .u64 t.Src.Lo, .bool t.Dst.V6, .int .u64 t.Dst.Hi, .int .u64 t.Dst.Lo, .int .i64 t.SPort, .int .i64 t.DPort]⟩), .v (.int .u64 p.1)]) (ra_cons rfl (ra_cons rfl (ra_cons rfl (ra_cons rfl ra_nil)))) (r42_eq hy) rfl rfl rfl rfl) ?_
  conv => whnf
  all_goals (cases h)
  all_goals exact rfl
theorem ok34 (cookie_Mask : api_Layout → api_Key → api_Tuple → Int → Option Int) (cookie_Pack : api_Layout → Int → Int → Option (Int × Bool)) (hS : SumsOK Try.prog (aget (sums34 cookie_Mask cookie_Pack))) : SumOK Try.prog 34 (s34 (cookie_MakeF cookie_Mask cookie_Pack)) := by
  refine SumOK.of_leads tab_ok (fun ar r ha hr => ?_) ⟨Try.f34, rfl, by decide, rfl⟩
  simp only [s34] at ha hr
  unfold r34 at hr
  split at hr <;> try (cases hr; done)
  split at hr <;> cases hr
  rename_i x h
  refine ⟨_, rfl, (leads34 cookie_Mask cookie_Pack hS _ _ _ _ _ x h).mono fun v H t hp => ?_⟩
  cases hp
  exact Res.val rfl trivial
def cookie_Make : api_Layout → api_Key → api_Tuple → Int → Int → Option (Int × Bool) := cookie_MakeF cookie_Mask cookie_Pack
theorem lift34 : SumOK Try.prog 34 (s34 cookie_Make) := ok34 cookie_Mask cookie_Pack (SumsOK.of_tab ⟨lift42, lift30, trivial⟩)
end Go.Vm.Code

namespace Go.Vm.Code
open Go Go.Vm Go.Proofs
set_option maxRecDepth 100000
set_option maxHeartbeats 4000000
set_option linter.unusedVariables false

/-! cloakroom/cookie.Unpack -/
def cookie_UnpackF (cookie_Right : api_Layout → Option Bool) (num_Mask : Int → Option Int) (l : api_Layout) (payload : Int) : Option (Int × Int × Bool) :=
  (cookie_Right l).bind fun xr =>
  cond (!xr)
    (
    some ((0, 0, false)))
    (
    oreq (decide (0 ≤ (wI .i64 (l.Slot + l.Gen)))) <|
    let t := payload.fdiv (2 ^ (min (wI .i64 (l.Slot + l.Gen)).toNat 64))
    cond (t != 0)
      (
      some ((0, 0, false)))
      (
      (num_Mask l.Slot).bind fun m =>
      oreq (decide (0 ≤ l.Slot)) <|
      some ((wI .i64 (andI .u64 payload m), payload.fdiv (2 ^ (min l.Slot.toNat 64)), true))))
def post32 (x : Int × Int × Bool) (v : Value) (H : Hp) : Prop := v = .tuple ⟨[.int .i64 x.1, .int .u64 x.2.1, .bool x.2.2]⟩
def r32 (g : api_Layout → Int → Option (Int × Int × Bool)) : List SArg → Option SRes
  | [.v (.agg ⟨[.bool a0_1, .int .i64 a0_2, .int .i64 a0_3]⟩), .v (.int .u64 a1_1)] => match g (api_Layout.mk a0_1 a0_2 a0_3) a1_1 with | some x => some ⟨.tuple ⟨[.int .i64 x.1, .int .u64 x.2.1, .bool x.2.2]⟩, [], []⟩ | none => none
  | _ => none
def s32 (g : api_Layout → Int → Option (Int × Int × Bool)) : Summ := ⟨[.v, .v], r32 g⟩
theorem r32_eq {g : api_Layout → Int → Option (Int × Int × Bool)} {a0_1 : Bool} {a0_2 : Int} {a0_3 : Int} {a1_1 : Int} {x : Int × Int × Bool} (hx : g (api_Layout.mk a0_1 a0_2 a0_3) a1_1 = some x) : (s32 g).run [.v (.agg ⟨[.bool a0_1, .int .i64 a0_2, .int .i64 a0_3]⟩), .v (.int .u64 a1_1)] = some ⟨.tuple ⟨[.int .i64 x.1, .int .u64 x.2.1, .bool x.2.2]⟩, [], []⟩ := by
  show r32 g [.v (.agg ⟨[.bool a0_1, .int .i64 a0_2, .int .i64 a0_3]⟩), .v (.int .u64 a1_1)] = _
  simp only [r32, hx]
abbrev sums32 (cookie_Right : api_Layout → Option Bool) (num_Mask : Int → Option Int) : List (Nat × Summ) := [(38, s38 cookie_Right), (90, s90 num_Mask)]
theorem leads32 (cookie_Right : api_Layout → Option Bool) (num_Mask : Int → Option Int) (hS : SumsOK Try.prog (aget (sums32 cookie_Right num_Mask))) (l : api_Layout) (payload : Int) (res : Int × Int × Bool) (h : cookie_UnpackF cookie_Right num_Mask l payload = some res) :
    Leads Try.prog 32 0 ⟨⟨32, 30, [(0, .agg ⟨[.bool l.Wide, .int .i64 l.Slot, .int .i64 l.Gen]⟩), (1, .int .u64 payload)], [.code k32_9], [], false, none⟩, [], [], 0⟩ (fun v H _ => post32 res v H) := by
  unfold cookie_UnpackF at h
  refine ev_ok tab_ok hS true 3000 ?_
  conv => whnf
  obtain ⟨xr, hy, h2⟩ := obind.elim h; clear h; have h := h2; clear h2
  refine sumK.introF [] (sumRun_of (aqs := [.v (.agg ⟨[.bool l.Wide, .int .i64 l.Slot, .int .i64 l.Gen]⟩)]) (ra_cons rfl ra_nil) (r38_eq hy) rfl rfl rfl rfl) ?_
  conv => whnf
  refine br.h h ?_ ?_ ?_
  · rfl
  · clear h; intro hb h; conv => whnf
    all_goals (cases h)
    all_goals exact rfl
  clear h; intro hb h; conv => whnf
  replace h := oreq.elim h; have hb := h.1; replace h := h.2
  first | (refine req.intro hb ?_; conv => whnf) | skip
  let t : Int := payload.fdiv (2 ^ (min (wI .i64 (l.Slot + l.Gen)).toNat 64))
  refine br.h h ?_ ?_ ?_
  · rfl
  · clear h; intro hb h; conv => whnf
    all_goals (cases h)
    all_goals exact rfl
  clear h; intro hb h; conv => whnf
  obtain ⟨m, hy, h2⟩ := obind.elim h; clear h; have h := h2; clear h2
  refine sumK.introF [] (sumRun_of (aqs := [.v (.int .i64 l.Slot)]) (ra_cons rfl ra_nil) (r90_eq hy) rfl rfl rfl rfl) ?_
  conv => whnf
  replace h := oreq.elim h; have hb := h.1; replace h := h.2
  first | (refine req.intro hb ?_; conv => whnf) | skip
  all_goals (cases h)
  all_goals exact rfl
theorem ok32 (cookie_Right : api_Layout → Option Bool) (num_Mask : Int → Option Int) (hS : SumsOK Try.prog (aget (sums32 cookie_Right num_Mask))) : SumOK Try.prog 32 (s32 (cookie_UnpackF cookie_Right num_Mask)) := by
  refine SumOK.of_leads tab_ok (fun ar r ha hr => ?_) ⟨Try.f32, rfl, by decide, rfl⟩
  simp only [s32] at ha hr
  unfold r32 at hr
  split at hr <;> try (cases hr; done)
  split at hr <;> cases hr
  rename_i x h
  refine ⟨_, rfl, (leads32 cookie_Right num_Mask hS _ _ x h).mono fun v H t hp => ?_⟩
  cases hp
  exact Res.val rfl trivial
def cookie_Unpack : api_Layout → Int → Option (Int × Int × Bool) := cookie_UnpackF cookie_Right num_Mask
theorem lift32 : SumOK Try.prog 32 (s32 cookie_Unpack) := ok32 cookie_Right num_Mask (SumsOK.of_tab ⟨lift38, lift90, trivial⟩)
end Go.Vm.Code

namespace Go.Vm.Code
open Go Go.Vm Go.Proofs
set_option maxRecDepth 100000
set_option maxHeartbeats 4000000
set_option linter.unusedVariables false

/-! cloakroom/cookie.Open -/
def cookie_OpenF (cookie_Mask : api_Layout → api_Key → api_Tuple → Int → Option Int) (cookie_Unpack : api_Layout → Int → Option (Int × Int × Bool)) (cookie_Width : api_Layout → Option Int) (num_Mask : Int → Option Int) (l : api_Layout) (k : api_Key) (t : api_Tuple) (cookie : Int) : Option (Int × Int × Bool) :=
  (cookie_Width l).bind fun w =>
  (num_Mask w).bind fun m =>
  cond ((andnI .u64 cookie m) != 0)
    (
    some ((0, 0, false)))
    (
    (cookie_Mask l k t cookie).bind fun m1 =>
    (cookie_Unpack l m1).bind fun u =>
    some ((u.1, u.2.1, u.2.2)))
def post36 (x : Int × Int × Bool) (v : Value) (H : Hp) : Prop := v = .tuple ⟨[.int .i64 x.1, .int .u64 x.2.1, .bool x.2.2]⟩
def r36 (g : api_Layout → api_Key → api_Tuple → Int → Option (Int × Int × Bool)) : List SArg → Option SRes
  | [.v (.agg ⟨[.bool a0_1, .int .i64 a0_2, .int .i64 a0_3]⟩), .v (.agg ⟨[.int .u64 a1_1, .int .u64 a1_2]⟩), .v (.agg ⟨[.int .i64 a2_1, .bool a2_2, .int .u64 a2_3, .int .u64 a2_4, .bool a2_5, .int .u64 a2_6, .int .u64 a2_7, .int .i64 a2_8, .int .i64 a2_9]⟩), .v (.int .u64 a3_1)] => match g (api_Layout.mk a0_1 a0_2 a0_3) (api_Key.mk a1_1 a1_2) (api_Tuple.mk a2_1 (api_Addr.mk a2_2 a2_3 a2_4) (api_Addr.mk a2_5 a2_6 a2_7) a2_8 a2_9) a3_1 with | some x => some ⟨.tuple ⟨[.int .i64 x.1, .int .u64 x.2.1, .bool x.2.2]⟩, [], []⟩ | none => none
  | _ => none
def s36 (g : api_Layout → api_Key → api_Tuple → Int → Option (Int × Int × Bool)) : Summ := ⟨[.v, .v, .v, .v], r36 g⟩
theorem r36_eq {g : api_Layout → api_Key → api_Tuple → Int → Option (Int × Int × Bool)} {a0_1 : Bool} {a0_2 : Int} {a0_3 : Int} {a1_1 : Int} {a1_2 : Int} {a2_1 : Int} {a2_2 : Bool} {a2_3 : Int} {a2_4 : Int} {a2_5 : Bool} {a2_6 : Int} {a2_7 : Int} {a2_8 : Int} {a2_9 : Int} {a3_1 : Int} {x : Int × Int × Bool} (hx : g (api_Layout.mk a0_1 a0_2 a0_3) (api_Key.mk a1_1 a1_2) (api_Tuple.mk a2_1 (api_Addr.mk a2_2 a2_3 a2_4) (api_Addr.mk a2_5 a2_6 a2_7) a2_8 a2_9) a3_1 = some x) : (s36 g).run [.v (.agg ⟨[.bool a0_1, .int .i64 a0_2, .int .i64 a0_3]⟩), .v (.agg ⟨[.int .u64 a1_1, .int .u64 a1_2]⟩), .v (.agg ⟨[.int .i64 a2_1, .bool a2_2, .int .u64 a2_3, .int .u64 a2_4, .bool a2_5, .int .u64 a2_6, .int .u64 a2_7, .int .i64 a2_8, .int .i64 a2_9]⟩), .v (.int .u64 a3_1)] = some ⟨.tuple ⟨[.int .i64 x.1, .int .u64 x.2.1, .bool x.2.2]⟩, [], []⟩ := by
  show r36 g [.v (.agg ⟨[.bool a0_1, .int .i64 a0_2, .int .i64 a0_3]⟩), .v (.agg ⟨[.int .u64 a1_1, .int .u64 a1_2]⟩), .v (.agg ⟨[.int .i64 a2_1, .bool a2_2, .int .u64 a2_3, .int .u64 a2_4, .bool a2_5, .int .u64 a2_6, .int .u64 a2_7, .int .i64 a2_8, .int .i64 a2_9]⟩), .v (.int .u64 a3_1)] = _
  simp only [r36, hx]
abbrev sums36 (cookie_Mask : api_Layout → api_Key → api_Tuple → Int → Option Int) (cookie_Unpack : api_Layout → Int → Option (Int × Int × Bool)) (cookie_Width : api_Layout → Option Int) (num_Mask : Int → Option Int) : List (Nat × Summ) := [(42, s42 cookie_Mask), (32, s32 cookie_Unpack), (40, s40 cookie_Width), (90, s90 num_Mask)]
theorem leads36 (cookie_Mask : api_Layout → api_Key → api_Tuple → Int → Option Int) (cookie_Unpack : api_Layout → Int → Option (Int × Int × Bool)) (cookie_Width : api_Layout → Option Int) (num_Mask : Int → Option Int) (hS : SumsOK Try.prog (aget (sums36 cookie_Mask cookie_Unpack cookie_Width num_Mask))) (l : api_Layout) (k : api_Key) (t : api_Tuple) (cookie : Int) (res : Int × Int × Bool) (h : cookie_OpenF cookie_Mask cookie_Unpack cookie_Width num_Mask l k t cookie = some res) :
    Leads Try.prog 36 0 ⟨⟨36, 27, [(0, .agg ⟨[.bool l.Wide, .int .i64 l.Slot, .int .i64 l.Gen]⟩), (1, .agg ⟨[.int .u64 k.A, .int .u64 k.B]⟩), (2, .agg ⟨[.int .i64 t.Proto, .bool t.Src.V6, .int .u64 t.Src.Hi, .int .u64 t.Src.Lo, .bool t.Dst.V6, .int .u64 t.Dst.Hi, .int .u64 t.Dst.Lo, .int .i64 t.SPort, .int .i64 t.DPort]⟩), (3, .int .u64 cookie)], [.code k36_9], [], false, none⟩, [], [], 0⟩ (fun v H _ => post36 res v H) := by
  unfold cookie_OpenF at h
  refine ev_ok tab_ok hS true 3000 ?_
  conv => whnf
  obtain ⟨w, hy, h2⟩ := obind.elim h; clear h; have h := h2; clear h2
  refine sumK.introF [] (sumRun_of (aqs := [.v (.agg ⟨[.bool l.Wide, .int .i64 l.Slot, .int .i64 l.Gen]⟩)]) (ra_cons rfl ra_nil) (r40_eq hy) rfl rfl rfl rfl) ?_
  conv => whnf
  obtain ⟨m, hy, h2⟩ := obind.elim h; clear h; have h := h2; clear h2
  refine sumK.introF [] (sumRun_of (aqs := [.v (.int .i64 w)]) (ra_cons rfl ra_nil) (r90_eq hy) rfl rfl rfl rfl) ?_
  conv => whnf
  refine br.h h ?_ ?_ ?_
  · rfl
  · clear h; intro hb h; conv => whnf
    all_goals (cases h)
    all_goals exact rfl
  clear h; intro hb h; conv => whnf
  obtain ⟨m1, hy, h2⟩ := obind.elim h; clear h; have h := h2; clear h2
  refine sumK.introF [] (sumRun_of (aqs := [.v (.agg ⟨[.bool l.Wide, .int .i64 l.Slot, .int .i64 l.Gen]⟩), .v (.agg ⟨[.int .u64 k.A, .int .u64 k.B]⟩), .v (.agg ⟨[.int .i64 t.Proto, .bool t.Src.V6, .int .u64 t.Src.Hi, .int .u64 t.Src.Lo, .bool t.Dst.V6, .int .u64 t.Dst.Hi, .int .u64 t.Dst.Lo, .int .i64 t.SPort, .int .i64 t.DPort]⟩), .v (.int .u64 cookie)]) (ra_cons rfl (ra_cons rfl (ra_cons rfl (ra_cons rfl ra_nil)))) (r42_eq hy) rfl rfl rfl rfl) ?_
  conv => whnf
  obtain ⟨u, hy, h2⟩ := obind.elim h; clear h; have h := h2; clear h2
  refine sumK.introF [] (sumRun_of (aqs := [.v (.agg ⟨[.bool l.Wide, .int .i64 l.Slot, .int .i64 l.Gen]⟩), .v (.int .u64 m1)]) (ra_cons rfl (ra_cons rfl ra_nil)) (r32_eq hy) rfl rfl rfl rfl) ?_
  conv => whnf
  all_goals (cases h)
  all_goals exact rfl
theorem ok36 (cookie_Mask : api_Layout → api_Key → api_Tuple → Int → Option Int) (cookie_Unpack : api_Layout → Int → Option (Int × Int × Bool)) (cookie_Width : api_Layout → Option Int) (num_Mask : Int → Option Int) (hS : SumsOK Try.prog (aget (sums36 cookie_Mask cookie_Unpack cookie_Width num_Mask))) : SumOK Try.prog 36 (s36 (cookie_OpenF cookie_Mask cookie_Unpack cookie_Width num_Mask)) := by
  refine SumOK.of_leads tab_ok (fun ar r ha hr => ?_) ⟨Try.f36, rfl, by decide, rfl⟩
  simp only [s36] at ha hr
  unfold r36 at hr
  split at hr <;> try (cases hr; done)
  split at hr <;> cases hr
  rename_i x h
  refine ⟨_, rfl, (leads36 cookie_Mask cookie_Unpack cookie_Width num_Mask hS _ _ _ _ x h).mono fun v H t hp => ?_⟩
  cases hp
  exact Res.val rfl trivial
def cookie_Open : api_Layout → api_Key → api_Tuple → Int → Option (Int × Int × Bool) := cookie_OpenF cookie_Mask cookie_Unpack cookie_Width num_Mask
theorem lift36 : SumOK Try.prog 36 (s36 cookie_Open) := ok36 cookie_Mask cookie_Unpack cookie_Width num_Mask (SumsOK.of_tab ⟨lift42, lift32, lift40, lift90, trivial⟩)
end Go.Vm.Code
