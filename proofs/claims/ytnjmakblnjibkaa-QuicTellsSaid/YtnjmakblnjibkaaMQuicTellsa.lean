import Derived.Test.YtnjmakblnjibkaaVmLift
import Derived.Test.YtnjmakblnjibkaaCodeA
/- Plain lemmas on the lifted functions' words. -/
namespace Go.Vm
open Go

/-! numbers of the machine -/
theorem wI64 {n : Int} (h1 : -9223372036854775808 ≤ n) (h2 : n < 9223372036854775808) : wI .i64 n = n := by
  show IntKind.wrap .i64 n = n; rw [IntKind.wrap_i64]; omega
theorem wU64 {n : Int} (h1 : 0 ≤ n) (h2 : n < 18446744073709551616) : wI .u64 n = n := by
  show IntKind.wrap .u64 n = n
  simp only [IntKind.wrap, IntKind.bits, IntKind.signed]; simp; omega
theorem wU32 {n : Int} (h1 : 0 ≤ n) (h2 : n < 4294967296) : wI .u32 n = n := by
  show IntKind.wrap .u32 n = n
  simp only [IntKind.wrap, IntKind.bits, IntKind.signed]; simp; omega
theorem wU16 {n : Int} (h1 : 0 ≤ n) (h2 : n < 65536) : wI .u16 n = n := by
  show IntKind.wrap .u16 n = n
  simp only [IntKind.wrap, IntKind.bits, IntKind.signed]; simp; omega
theorem wU8 {n : Int} (h1 : 0 ≤ n) (h2 : n < 256) : wI .u8 n = n := by
  show IntKind.wrap .u8 n = n
  simp only [IntKind.wrap, IntKind.bits, IntKind.signed]; simp; omega
theorem wU64m (n : Int) : wI .u64 n = n % 18446744073709551616 := by
  show IntKind.wrap .u64 n = _
  simp only [IntKind.wrap, IntKind.bits, IntKind.signed]; simp
theorem wU32m (n : Int) : wI .u32 n = n % 4294967296 := by
  show IntKind.wrap .u32 n = _
  simp only [IntKind.wrap, IntKind.bits, IntKind.signed]; simp
theorem wU16m (n : Int) : wI .u16 n = n % 65536 := by
  show IntKind.wrap .u16 n = _
  simp only [IntKind.wrap, IntKind.bits, IntKind.signed]; simp
theorem wU8m (n : Int) : wI .u8 n = n % 256 := by
  show IntKind.wrap .u8 n = _
  simp only [IntKind.wrap, IntKind.bits, IntKind.signed]; simp

theorem bv64 {n : Nat} (h : n < 18446744073709551616) : (BitVec.ofInt 64 (n : Int)).toNat = n := by
  rw [BitVec.toNat_ofInt]; omega
theorem andI64 {a b : Nat} (ha : a < 9223372036854775808) (hb : b < 9223372036854775808) : andI .i64 (a : Int) (b : Int) = ((a &&& b : Nat) : Int) := by
  have h : a &&& b ≤ a := Nat.and_le_left
  show IntKind.wrap .i64 _ = _
  rw [show IntKind.bits .i64 = 64 from rfl, BitVec.toNat_and, bv64 (by omega), bv64 (by omega)]
  exact wI64 (by omega) (by omega)
theorem iorI64 {a b : Nat} (ha : a < 9223372036854775808) (hb : b < 9223372036854775808) : iorI .i64 (a : Int) (b : Int) = ((a ||| b : Nat) : Int) := by
  have h : a ||| b < 2 ^ 63 := Nat.or_lt_two_pow (by omega) (by omega)
  show IntKind.wrap .i64 _ = _
  rw [show IntKind.bits .i64 = 64 from rfl, BitVec.toNat_or, bv64 (by omega), bv64 (by omega)]
  exact wI64 (by omega) (by omega)
theorem andU64 {a b : Nat} (ha : a < 18446744073709551616) (hb : b < 18446744073709551616) : andI .u64 (a : Int) (b : Int) = ((a &&& b : Nat) : Int) := by
  have h : a &&& b ≤ a := Nat.and_le_left
  show IntKind.wrap .u64 _ = _
  rw [show IntKind.bits .u64 = 64 from rfl, BitVec.toNat_and, bv64 (by omega), bv64 (by omega)]
  exact wU64 (by omega) (by omega)
theorem iorU64 {a b : Nat} (ha : a < 18446744073709551616) (hb : b < 18446744073709551616) : iorI .u64 (a : Int) (b : Int) = ((a ||| b : Nat) : Int) := by
  have h : a ||| b < 2 ^ 64 := Nat.or_lt_two_pow (by omega) (by omega)
  show IntKind.wrap .u64 _ = _
  rw [show IntKind.bits .u64 = 64 from rfl, BitVec.toNat_or, bv64 (by omega), bv64 (by omega)]
  exact wU64 (by omega) (by omega)
theorem ixorU64 {a b : Nat} (ha : a < 18446744073709551616) (hb : b < 18446744073709551616) : ixorI .u64 (a : Int) (b : Int) = ((a ^^^ b : Nat) : Int) := by
  have h : a ^^^ b < 2 ^ 64 := Nat.xor_lt_two_pow (by omega) (by omega)
  show IntKind.wrap .u64 _ = _
  rw [show IntKind.bits .u64 = 64 from rfl, BitVec.toNat_xor, bv64 (by omega), bv64 (by omega)]
  exact wU64 (by omega) (by omega)
theorem and_mask (a k : Nat) : a &&& (2 ^ k - 1) = a % 2 ^ k := Nat.and_two_pow_sub_one_eq_mod a k
theorem or_low {a b k : Nat} (hb : b < 2 ^ k) : (a * 2 ^ k) ||| b = a * 2 ^ k + b := by
  rw [Nat.mul_comm]; exact (Nat.two_pow_add_eq_or_of_lt hb a).symm
/-- a number's lowest bits -/
theorem andI64_mask (k : Nat) {a m : Int} (hm : m = 2 ^ k - 1) (hk : k ≤ 62) (h0 : 0 ≤ a) (h1 : a < 9223372036854775808) : andI .i64 a m = a % 2 ^ k := by
  obtain ⟨n, rfl⟩ := Int.eq_ofNat_of_zero_le h0
  have hp : 2 ^ k ≤ 2 ^ 62 := Nat.pow_le_pow_right (by decide) hk
  have hp1 : 1 ≤ 2 ^ k := Nat.one_le_two_pow
  have : m = ((2 ^ k - 1 : Nat) : Int) := by rw [hm]; push_cast [hp1]; rfl
  rw [this, andI64 (by omega) (by omega), and_mask]; push_cast; rfl
theorem andU64_mask (k : Nat) {a m : Int} (hm : m = 2 ^ k - 1) (hk : k ≤ 64) (h0 : 0 ≤ a) (h1 : a < 18446744073709551616) : andI .u64 a m = a % 2 ^ k := by
  obtain ⟨n, rfl⟩ := Int.eq_ofNat_of_zero_le h0
  have hp : 2 ^ k ≤ 2 ^ 64 := Nat.pow_le_pow_right (by decide) hk
  have hp1 : 1 ≤ 2 ^ k := Nat.one_le_two_pow
  have : m = ((2 ^ k - 1 : Nat) : Int) := by rw [hm]; push_cast [hp1]; rfl
  rw [this, andU64 (by omega) (by omega), and_mask]; push_cast; rfl
/-- two numbers whose bits lie apart -/
theorem iorI64_low (k : Nat) {a b : Int} (h0 : 0 ≤ a) (h1 : a * 2 ^ k < 9223372036854775808) (hb0 : 0 ≤ b) (hb : b < 2 ^ k) (hb1 : b < 9223372036854775808) : iorI .i64 (a * 2 ^ k) b = a * 2 ^ k + b := by
  obtain ⟨n, rfl⟩ := Int.eq_ofNat_of_zero_le h0
  obtain ⟨m, rfl⟩ := Int.eq_ofNat_of_zero_le hb0
  have e : ((n : Int) * 2 ^ k) = ((n * 2 ^ k : Nat) : Int) := by push_cast; rfl
  rw [e] at h1 ⊢
  rw [iorI64 (by omega) (by omega), or_low (by exact_mod_cast hb)]; push_cast; rfl
theorem iorU64_low (k : Nat) {a b : Int} (h0 : 0 ≤ a) (h1 : a * 2 ^ k < 18446744073709551616) (hb0 : 0 ≤ b) (hb : b < 2 ^ k) (hb1 : b < 18446744073709551616) : iorI .u64 (a * 2 ^ k) b = a * 2 ^ k + b := by
  obtain ⟨n, rfl⟩ := Int.eq_ofNat_of_zero_le h0
  obtain ⟨m, rfl⟩ := Int.eq_ofNat_of_zero_le hb0
  have e : ((n : Int) * 2 ^ k) = ((n * 2 ^ k : Nat) : Int) := by push_cast; rfl
  rw [e] at h1 ⊢
  rw [iorU64 (by omega) (by omega), or_low (by exact_mod_cast hb)]; push_cast; rfl
theorem fdivP (a : Int) (k : Nat) : a.fdiv (2 ^ k) = a / 2 ^ k := Int.fdiv_eq_ediv_of_nonneg a (Int.le_of_lt (Int.pow_pos (by decide)))

/-! steps -/
theorem oreq_p {α : Type} {p : Prop} [Decidable p] {x : Option α} (h : p) : oreq (decide p) x = x := oreq.mk (decide_eq_true h)
theorem cond_p {α : Type} {p : Prop} [Decidable p] {x y : α} (h : p) : cond (decide p) x y = x := by rw [decide_eq_true h, cond_true]
theorem cond_n {α : Type} {p : Prop} [Decidable p] {x y : α} (h : ¬ p) : cond (decide p) x y = y := by rw [decide_eq_false h, cond_false]
theorem cond_dec {α : Type} {p : Prop} [Decidable p] {x y : α} : cond (decide p) x y = if p then x else y := by
  by_cases h : p <;> simp [h]

/-! loops -/
theorem iter_eq {σ ρ : Type} {step : σ → Option (Sum σ ρ)} (F : σ → ρ) (P : σ → Prop) (μ : σ → Nat)
    (h : ∀ s, P s → step s = some (.inr (F s)) ∨ ∃ s', step s = some (.inl s') ∧ P s' ∧ μ s' < μ s ∧ F s' = F s) : ∀ n s, P s → μ s < n → iter step n s = some (F s)
  | 0, s, hp, hn => by omega
  | n + 1, s, hp, hn => by
    rw [iter]
    rcases h s hp with e | ⟨s', e, hp', hm, hf⟩
    · rw [e]
    · rw [e]; exact hf ▸ iter_eq F P μ h n s' hp' (by omega)
theorem FUEL_eq : FUEL = 18446744073709551616 := rfl
end Go.Vm

/- Numbers as bytes, the highest one first: plain Lean, no program. -/
namespace Go.Vm
open Go

/-- the lowest bytes of a number, the highest one first -/
def be (n : Nat) : Nat → List UInt8
  | 0 => []
  | r + 1 => UInt8.ofNat (n / 256 ^ r) :: be n r
/-- the number of bytes -/
def valL (l : List UInt8) : Nat := l.foldl (fun n b => n * 256 + b.toNat) 0

@[simp] theorem be_len (n : Nat) : ∀ k, (be n k).length = k
  | 0 => rfl
  | k + 1 => by simp [be, be_len n k]
theorem be_snoc (n : Nat) : ∀ k, be n (k + 1) = be (n / 256) k ++ [UInt8.ofNat n]
  | 0 => by simp [be]
  | k + 1 => by
    rw [be, be_snoc n k, be, Nat.div_div_eq_div_mul, Nat.pow_succ, Nat.mul_comm 256]; rfl
theorem be_mod (n : Nat) : ∀ k, be (n % 256 ^ k) k = be n k
  | 0 => rfl
  | k + 1 => by
    rw [be_snoc, be_snoc, Nat.pow_succ, Nat.mul_comm, Nat.mod_mul_right_div_self, be_mod (n / 256) k]
    congr 2
    apply UInt8.toNat_inj.1
    simp only [UInt8.toNat_ofNat']
    rw [Nat.mod_mul_right_mod]
theorem val_foldl (l : List UInt8) : ∀ n : Nat, l.foldl (fun n b => n * 256 + b.toNat) n = n * 256 ^ l.length + valL l := by
  induction l with
  | nil => intro n; simp [valL]
  | cons b l ih =>
    intro n
    rw [valL, List.foldl_cons, ih, List.foldl_cons, ih, List.length_cons, Nat.pow_succ]
    rw [Nat.zero_mul, Nat.zero_add, Nat.add_mul, Nat.mul_assoc, Nat.mul_comm (256 ^ _) 256, Nat.add_assoc]
@[simp] theorem val_nil : valL [] = 0 := rfl
theorem val_cons (b : UInt8) (l : List UInt8) : valL (b :: l) = b.toNat * 256 ^ l.length + valL l := by
  rw [valL, List.foldl_cons, val_foldl]; simp
theorem val_append (l m : List UInt8) : valL (l ++ m) = valL l * 256 ^ m.length + valL m := by
  rw [valL, List.foldl_append, val_foldl]; rfl
theorem val_snoc (l : List UInt8) (b : UInt8) : valL (l ++ [b]) = valL l * 256 + b.toNat := by
  rw [val_append]; simp [val_cons]
theorem val_lt : ∀ l : List UInt8, valL l < 256 ^ l.length
  | [] => by simp
  | b :: l => by
    have h := val_lt l
    have hb := b.toNat_lt
    rw [val_cons, List.length_cons, Nat.pow_succ]
    have : b.toNat * 256 ^ l.length + 256 ^ l.length ≤ 256 * 256 ^ l.length := by
      rw [← Nat.succ_mul]; exact Nat.mul_le_mul_right _ (by omega)
    rw [Nat.mul_comm (256 ^ l.length)]; omega
theorem val_be (n : Nat) : ∀ k, valL (be n k) = n % 256 ^ k
  | 0 => by simp [be, Nat.mod_one]
  | k + 1 => by
    have e : n % 256 ^ (k + 1) = n % 256 + 256 * (n / 256 % 256 ^ k) := by rw [Nat.pow_succ', Nat.mod_mul]
    rw [be_snoc, val_snoc, val_be (n / 256) k, UInt8.toNat_ofNat', e]
    generalize n / 256 % 256 ^ k = x
    omega
theorem val_be_lt {n k : Nat} (h : n < 256 ^ k) : valL (be n k) = n := by rw [val_be, Nat.mod_eq_of_lt h]
theorem be_val : ∀ l : List UInt8, be (valL l) l.length = l
  | [] => rfl
  | b :: l => by
    have h := val_lt l
    rw [List.length_cons, be]
    have e1 : valL (b :: l) / 256 ^ l.length = b.toNat := by
      rw [val_cons, Nat.mul_comm, Nat.mul_add_div (Nat.pow_pos (by decide)), Nat.div_eq_of_lt h, Nat.add_zero]
    have e2 : be (valL (b :: l)) l.length = be (valL l) l.length := by
      rw [← be_mod (valL (b :: l)), val_cons, Nat.mul_add_mod', be_mod]
    rw [e1, e2, be_val l]
    simp
theorem be_inj {n m k : Nat} (hn : n < 256 ^ k) (hm : m < 256 ^ k) (h : be n k = be m k) : n = m := by
  rw [← val_be_lt hn, ← val_be_lt hm, h]
theorem be_val' {l : List UInt8} {k : Nat} (h : l.length = k) : be (valL l) k = l := by subst h; exact be_val l
theorem be_of {l : List UInt8} {n k : Nat} (h : l.length = k) (hv : valL l = n) : be n k = l := by subst hv; exact be_val' h
theorem val_take_lt {l : List UInt8} {k : Nat} (n : Nat) (h : 256 ^ k ≤ n) : valL (l.take k) < n := by
  have h1 := val_lt (l.take k)
  have h2 : (l.take k).length ≤ k := List.length_take_le _ _
  exact Nat.lt_of_lt_of_le h1 (Nat.le_trans (Nat.pow_le_pow_right (by decide) h2) h)
theorem be_split (n : Nat) (j : Nat) : ∀ k, be n (j + k) = be (n / 256 ^ k) j ++ be n k
  | 0 => by simp [be]
  | k + 1 => by
    rw [show j + (k + 1) = (j + k) + 1 from rfl, be_snoc, be_split (n / 256) j k, be_snoc n k, Nat.div_div_eq_div_mul, Nat.pow_succ, Nat.mul_comm (256 ^ k), List.append_assoc]
end Go.Vm

namespace Go.Vm.Code
open Go Go.Vm Go.Proofs
set_option maxRecDepth 100000
set_option maxHeartbeats 4000000
set_option linter.unusedVariables false

@[ext] structure quic_Head where
  Long : Bool
  Bits : Int
  Version : Int
  DCID : List UInt8
  SCID : List UInt8
  Rest : List UInt8
  deriving DecidableEq
@[ext] structure octet_Reader where
  s : List UInt8
  made : Bool
  bad : Bool
  deriving DecidableEq
@[ext] structure api_Cover where
  V6 : Bool
  Backend : Int
  Cookie : Int
  First : Bool
  Instance : Int
  deriving DecidableEq
@[ext] structure api_Layout where
  Wide : Bool
  Slot : Int
  Gen : Int
  deriving DecidableEq
@[ext] structure api_Key where
  A : Int
  B : Int
  deriving DecidableEq
@[ext] structure api_Addr where
  V6 : Bool
  Hi : Int
  Lo : Int
  deriving DecidableEq
@[ext] structure api_Tuple where
  Proto : Int
  Src : api_Addr
  Dst : api_Addr
  SPort : Int
  DPort : Int
  deriving DecidableEq
@[ext] structure cookie_layout where
  Layout : api_Layout
  deriving DecidableEq
@[ext] structure Arr4_Int where
  e0 : Int
  e1 : Int
  e2 : Int
  e3 : Int
  deriving DecidableEq
@[ext] structure sip_Hasher where
  made : Bool
  s : Arr4_Int
  last : Int
  count : Int
  deriving DecidableEq
end Go.Vm.Code

namespace Go.Vm.Code
open Go Go.Vm Go.Proofs
set_option maxRecDepth 100000
set_option maxHeartbeats 4000000
set_option linter.unusedVariables false

/-! cloakroom/octet.Put -/
def octet_Put_s1 (n : Int) (k : Int) (t17 : Int) (b : List Int) : Option (Sum (Int × (List Int)) (List UInt8)) :=
  cond (decide (t17 < (k.toNat : Int)))
    (
    let t := wI .i64 (8 * (wI .i64 ((wI .i64 (k - 1)) - t17)))
    oreq (decide (0 ≤ t)) <|
    oreq (decide ((0 : Int) ≤ t17 ∧ t17 < (k.toNat : Int))) <|
    oreq (decide (t17.toNat < b.length)) <|
    let row := b.set t17.toNat (wI .u8 (n.fdiv (2 ^ (min t.toNat 64))))
    some (.inl (wI .i64 (t17 + 1), row)))
    (
    oreq (decide (k.toNat ≤ b.length)) <|
    some (.inr (iB (b.take k.toNat))))
def octet_PutF (n : Int) (k : Int) : Option (List UInt8) :=
  cond (decide (k < 1))
    (
    some ([]))
    (
    cond (decide (k > 8))
      (
      some ([]))
      (
      oreq (decide (0 ≤ k ∧ k ≤ k ∧ k < 2 ^ 63 ∧ (1 : Int) * k ≤ 2 ^ 48)) <|
      iter (fun st => octet_Put_s1 n k st.1 st.2) FUEL (0, List.replicate k.toNat 0)))
def post63 (x : List UInt8) (v : Value) (H : Hp) : Prop := v = .string ⟨⟨x⟩⟩
def r63 (g : Int → Int → Option (List UInt8)) : List SArg → Option SRes
  | [.v (.int .u64 a0_1), .v (.int .i64 a1_1)] => match g a0_1 a1_1 with | some x => some ⟨.string ⟨⟨x⟩⟩, [], []⟩ | none => none
  | _ => none
def s63 (g : Int → Int → Option (List UInt8)) : Summ := ⟨[.v, .v], r63 g⟩
theorem r63_eq {g : Int → Int → Option (List UInt8)} {a0_1 : Int} {a1_1 : Int} {x : List UInt8} (hx : g a0_1 a1_1 = some x) : (s63 g).run [.v (.int .u64 a0_1), .v (.int .i64 a1_1)] = some ⟨.string ⟨⟨x⟩⟩, [], []⟩ := by
  show r63 g [.v (.int .u64 a0_1), .v (.int .i64 a1_1)] = _
  simp only [r63, hx]
abbrev sums63 : List (Nat × Summ) := []
def head63_1 (n : Int) (k : Int) (t17 : Int) (b : List Int) : VM :=
  ⟨⟨63, 34, [(0, .int .u64 n), (1, .int .i64 k), (5, .slice (some ⟨0, 0, none⟩) k.toNat 1), (16, .int .i64 (k.toNat : Int)), (17, .int .i64 t17)], [.code k63_17, .inLoop k63_17, .inBlock 0, .code k63_22], [], false, none⟩, [], [(0, .row true (vI .u8 b))], 1⟩
theorem loop63_1 (hS : SumsOK Try.prog (aget (sums63))) (n : Int) (k : Int) (res : List UInt8) : ∀ fuel (st : Int × (List Int)) (o : List UInt8), iter (fun st => octet_Put_s1 n k st.1 st.2) fuel st = some o → (o = res) →
    Leads Try.prog 63 0 (head63_1 n k st.1 st.2) (fun v H _ => post63 res v H) := by
  intro fuel st o h hc
  refine iter_leads (head := fun st => head63_1 n k st.1 st.2) (C := fun o => (o = res)) ?_ fuel st o h hc
  clear h hc o st fuel
  intro st o h hc
  obtain ⟨t17, b⟩ := st
  replace h : octet_Put_s1 n k t17 b = some o := h
  show Leads Try.prog 63 0 (head63_1 n k t17 b) (fun v H _ => post63 res v H)
  unfold octet_Put_s1 at h
  refine ev_ok tab_ok hS true 3000 ?_
  conv => whnf
  refine br.h2 h ?_ ?_ ?_
  · rfl
  · clear h; intro hb h; conv => whnf
    replace h := oreq.elim h; have hb := h.1; replace h := h.2
    refine req.intro (by (first | rfl | (simp [vI, vB, vS, bI, oneC, addrBlk, cellsL, Value.cells] at *; omega) | (simp [vI, vB, vS, bI, oneC, addrBlk, cellsL, Value.cells] at *; done))) ?_
    conv => whnf
    refine pk_b2s ?_
    conv => whnf
    all_goals (cases h; cases hc)
    all_goals exact rfl
  clear h; intro hb h; conv => whnf
  let t : Int := wI .i64 (8 * (wI .i64 ((wI .i64 (k - 1)) - t17)))
  replace h := oreq.elim h; have hb := h.1; replace h := h.2
  first | (refine req.intro hb ?_; conv => whnf) | skip
  replace h := oreq.elim h; have hb := h.1; replace h := h.2
  first | (refine req.intro hb ?_; conv => whnf) | skip
  replace h := oreq.elim h; have hb := h.1; replace h := h.2
  refine st_I hb (by first | rfl | (rw [Nat.zero_add, Nat.mul_one]; done) | omega) ?_
  conv => whnf
  let row : List Int := b.set t17.toNat (wI .u8 (n.fdiv (2 ^ (min t.toNat 64))))
  cases h; simp only [Sum.elim_inl, Sum.elim_inr, head63_1] at hc
  refine Leads.re hc [(0, 0)] rfl ?_ ?_ <;> (repeat' first | exact trivial | refine ⟨⟨_, rfl, rfl⟩, ?_⟩ | refine ⟨⟨_, _, rfl, rfl, .rowF (vI_flat _ _) id⟩, ?_⟩ | refine ⟨⟨_, _, rfl, rfl, .rowF (vS_flat _) id⟩, ?_⟩ | refine ⟨⟨_, _, rfl, rfl, .rowF (vB_flat _) id⟩, ?_⟩ | refine ⟨⟨_, _, rfl, rfl, .cells rfl⟩, ?_⟩ | refine ⟨⟨_, _, rfl, rfl, .row rfl id⟩, ?_⟩ | refine ⟨⟨_, _, rfl, rfl, .cr rfl⟩, ?_⟩ | refine ⟨⟨_, _, rfl, rfl, .rc rfl⟩, ?_⟩ | refine ⟨⟨_, _, rfl, rfl, .marks⟩, ?_⟩ | refine ⟨⟨_, _, rfl, rfl, .siter _ _⟩, ?_⟩ | refine ⟨⟨_, _, rfl, rfl, .loop rfl rfl rfl rfl (by repeat' first | exact trivial | refine ⟨rfl, ?_⟩) rfl rfl rfl rfl⟩, ?_⟩)
theorem leads63 (hS : SumsOK Try.prog (aget (sums63))) (n : Int) (k : Int) (res : List UInt8) (h : octet_PutF n k = some res) :
    Leads Try.prog 63 0 ⟨⟨63, 34, [(0, .int .u64 n), (1, .int .i64 k)], [.code k63_26], [], false, none⟩, [], [], 0⟩ (fun v H _ => post63 res v H) := by
  unfold octet_PutF at h
  refine ev_ok tab_ok hS true 3000 ?_
  conv => whnf
  refine br.h h ?_ ?_ ?_
  · rfl
  · clear h; intro hb h; conv => whnf
    all_goals (cases h)
    all_goals exact rfl
  clear h; intro hb h; conv => whnf
  refine br.h h ?_ ?_ ?_
  · rfl
  · clear h; intro hb h; conv => whnf
    all_goals (cases h)
    all_goals exact rfl
  clear h; intro hb h; conv => whnf
  replace h := oreq.elim h; have hb := h.1; replace h := h.2
  first | (refine req.intro hb ?_; conv => whnf) | skip
  refine pk_mkI ?_
  conv => whnf
  have hl := loop63_1 hS _ _ res _ _ _ h rfl; simp only [head63_1] at hl
  refine Leads.re hl [(0, 0)] rfl ?_ ?_ <;> (repeat' first | exact trivial | refine ⟨⟨_, rfl, rfl⟩, ?_⟩ | refine ⟨⟨_, _, rfl, rfl, .rowF (vI_flat _ _) id⟩, ?_⟩ | refine ⟨⟨_, _, rfl, rfl, .rowF (vS_flat _) id⟩, ?_⟩ | refine ⟨⟨_, _, rfl, rfl, .rowF (vB_flat _) id⟩, ?_⟩ | refine ⟨⟨_, _, rfl, rfl, .cells rfl⟩, ?_⟩ | refine ⟨⟨_, _, rfl, rfl, .row rfl id⟩, ?_⟩ | refine ⟨⟨_, _, rfl, rfl, .cr rfl⟩, ?_⟩ | refine ⟨⟨_, _, rfl, rfl, .rc rfl⟩, ?_⟩ | refine ⟨⟨_, _, rfl, rfl, .marks⟩, ?_⟩ | refine ⟨⟨_, _, rfl, rfl, .siter _ _⟩, ?_⟩ | refine ⟨⟨_, _, rfl, rfl, .loop rfl rfl rfl rfl (by repeat' first | exact trivial | refine ⟨rfl, ?_⟩) rfl rfl rfl rfl⟩, ?_⟩)
theorem ok63 (hS : SumsOK Try.prog (aget (sums63))) : SumOK Try.prog 63 (s63 (octet_PutF)) := by
  refine SumOK.of_leads tab_ok (fun ar r ha hr => ?_) ⟨Try.f63, rfl, by decide, rfl⟩
  simp only [s63] at ha hr
  unfold r63 at hr
  split at hr <;> try (cases hr; done)
  split at hr <;> cases hr
  rename_i x h
  refine ⟨_, rfl, (leads63 hS _ _ x h).mono fun v H t hp => ?_⟩
  cases hp
  exact Res.val rfl trivial
def octet_Put : Int → Int → Option (List UInt8) := octet_PutF
theorem lift63 : SumOK Try.prog 63 (s63 octet_Put) := ok63 (SumsOK.of_tab trivial)
end Go.Vm.Code

namespace Go.Vm.Code
open Go Go.Vm Go.Proofs
set_option maxRecDepth 100000
set_option maxHeartbeats 4000000
set_option linter.unusedVariables false

/-! cloakroom/octet.Get -/
def octet_Get_s1 (t1 : List UInt8) (n : Int) (t37 : Int) : Option (Sum (Int × Int) (Int × Bool)) :=
  cond (decide (t37 < (t1.length : Int)))
    (
    oreq (decide ((0 : Int) ≤ t37 ∧ t37 < (t1.length : Int))) <|
    ((bI t1)[t37.toNat]?).bind fun (e : Int) =>
    let t2 := iorI .u64 (wI .u64 (n * 2 ^ 8)) (wI .u64 e)
    some (.inl (t2, wI .i64 (t37 + 1))))
    (
    some (.inr ((n, true))))
def octet_GetF (s : List UInt8) (ata1 : Int) (k : Int) : Option (Int × Bool) :=
  cond (decide (k < 1))
    (
    some ((0, false)))
    (
    cond (decide (k > 8))
      (
      some ((0, false)))
      (
      cond (decide (ata1 < 0))
        (
        some ((0, false)))
        (
        let t := decide ((wI .i64 ((s.length : Int) - k)) < ata1)
        cond (t)
          (
          some ((0, false)))
          (
          oreq (decide ((0 : Int) ≤ (wI .i64 (ata1 + k)) ∧ (wI .i64 (ata1 + k)) ≤ (s.length : Int) ∧ (0 : Int) ≤ ata1 ∧ ata1 ≤ ((wI .i64 (ata1 + k)).toNat : Int))) <|
          let t1 := (s.drop ata1.toNat).take ((wI .i64 (ata1 + k)).toNat - ata1.toNat)
          iter (fun st => octet_Get_s1 t1 st.1 st.2) FUEL (0, 0)))))
def post59 (x : Int × Bool) (v : Value) (H : Hp) : Prop := v = .tuple ⟨[.int .u64 x.1, .bool x.2]⟩
def r59 (g : (List UInt8) → Int → Int → Option (Int × Bool)) : List SArg → Option SRes
  | [.v (.string ⟨⟨a0_1⟩⟩), .v (.int .i64 a1_1), .v (.int .i64 a2_1)] => match g a0_1 a1_1 a2_1 with | some x => some ⟨.tuple ⟨[.int .u64 x.1, .bool x.2]⟩, [], []⟩ | none => none
  | _ => none
def s59 (g : (List UInt8) → Int → Int → Option (Int × Bool)) : Summ := ⟨[.v, .v, .v], r59 g⟩
theorem r59_eq {g : (List UInt8) → Int → Int → Option (Int × Bool)} {a0_1 : List UInt8} {a1_1 : Int} {a2_1 : Int} {x : Int × Bool} (hx : g a0_1 a1_1 a2_1 = some x) : (s59 g).run [.v (.string ⟨⟨a0_1⟩⟩), .v (.int .i64 a1_1), .v (.int .i64 a2_1)] = some ⟨.tuple ⟨[.int .u64 x.1, .bool x.2]⟩, [], []⟩ := by
  show r59 g [.v (.string ⟨⟨a0_1⟩⟩), .v (.int .i64 a1_1), .v (.int .i64 a2_1)] = _
  simp only [r59, hx]
abbrev sums59 : List (Nat × Summ) := []
def head59_1 (t1 : List UInt8) (n : Int) (t37 : Int) : VM :=
  ⟨⟨59, 48, [(8, .int .u64 n), (35, .slice (some ⟨0, 0, none⟩) t1.length 1), (36, .int .i64 (t1.length : Int)), (37, .int .i64 t37)], [.code k59_17, .inLoop k59_17, .inBlock 0, .code k59_22], [], false, none⟩, [], [(0, .row true (vI .u8 (bI t1)))], 1⟩
theorem loop59_1 (hS : SumsOK Try.prog (aget (sums59))) (t1 : List UInt8) (res : Int × Bool) : ∀ fuel (st : Int × Int) (o : Int × Bool), iter (fun st => octet_Get_s1 t1 st.1 st.2) fuel st = some o → (o = res) →
    Leads Try.prog 59 0 (head59_1 t1 st.1 st.2) (fun v H _ => post59 res v H) := by
  intro fuel st o h hc
  refine iter_leads (head := fun st => head59_1 t1 st.1 st.2) (C := fun o => (o = res)) ?_ fuel st o h hc
  clear h hc o st fuel
  intro st o h hc
  obtain ⟨n, t37⟩ := st
  replace h : octet_Get_s1 t1 n t37 = some o := h
  show Leads Try.prog 59 0 (head59_1 t1 n t37) (fun v H _ => post59 res v H)
  unfold octet_Get_s1 at h
  refine ev_ok tab_ok hS true 3000 ?_
  conv => whnf
  refine br.h2 h ?_ ?_ ?_
  · rfl
  · clear h; intro hb h; conv => whnf
    all_goals (cases h; cases hc)
    all_goals exact rfl
  clear h; intro hb h; conv => whnf
  replace h := oreq.elim h; have hb := h.1; replace h := h.2
  first | (refine req.intro hb ?_; conv => whnf) | skip
  obtain ⟨e, hy, h2⟩ := obind.elim h; clear h; have h := h2; clear h2
  refine rd.I hy (by first | rfl | (rw [Nat.zero_add, Nat.mul_one]; done) | omega) ?_
  conv => whnf
  let t2 : Int := iorI .u64 (wI .u64 (n * 2 ^ 8)) (wI .u64 e)
  cases h; simp only [Sum.elim_inl, Sum.elim_inr, head59_1] at hc
  refine Leads.re hc [(0, 0)] rfl ?_ ?_ <;> (repeat' first | exact trivial | refine ⟨⟨_, rfl, rfl⟩, ?_⟩ | refine ⟨⟨_, _, rfl, rfl, .rowF (vI_flat _ _) id⟩, ?_⟩ | refine ⟨⟨_, _, rfl, rfl, .rowF (vS_flat _) id⟩, ?_⟩ | refine ⟨⟨_, _, rfl, rfl, .rowF (vB_flat _) id⟩, ?_⟩ | refine ⟨⟨_, _, rfl, rfl, .cells rfl⟩, ?_⟩ | refine ⟨⟨_, _, rfl, rfl, .row rfl id⟩, ?_⟩ | refine ⟨⟨_, _, rfl, rfl, .cr rfl⟩, ?_⟩ | refine ⟨⟨_, _, rfl, rfl, .rc rfl⟩, ?_⟩ | refine ⟨⟨_, _, rfl, rfl, .marks⟩, ?_⟩ | refine ⟨⟨_, _, rfl, rfl, .siter _ _⟩, ?_⟩ | refine ⟨⟨_, _, rfl, rfl, .loop rfl rfl rfl rfl (by repeat' first | exact trivial | refine ⟨rfl, ?_⟩) rfl rfl rfl rfl⟩, ?_⟩)
theorem leads59 (hS : SumsOK Try.prog (aget (sums59))) (s : List UInt8) (ata1 : Int) (k : Int) (res : Int × Bool) (h : octet_GetF s ata1 k = some res) :
    Leads Try.prog 59 0 ⟨⟨59, 48, [(0, .string ⟨⟨s⟩⟩), (1, .int .i64 ata1), (2, .int .i64 k)], [.code k59_26], [], false, none⟩, [], [], 0⟩ (fun v H _ => post59 res v H) := by
  unfold octet_GetF at h
  refine ev_ok tab_ok hS true 3000 ?_
  conv => whnf
  refine br.h h ?_ ?_ ?_
  · rfl
  · clear h; intro hb h; conv => whnf
    all_goals (cases h)
    all_goals exact rfl
  clear h; intro hb h; conv => whnf
  refine br.h h ?_ ?_ ?_
  · rfl
  · clear h; intro hb h; conv => whnf
    all_goals (cases h)
    all_goals exact rfl
  clear h; intro hb h; conv => whnf
  refine br.h h ?_ ?_ ?_
  · rfl
  · clear h; intro hb h; conv => whnf
    all_goals (cases h)
    all_goals exact rfl
  clear h; intro hb h; conv => whnf
  let t : Bool := decide ((wI .i64 ((s.length : Int) - k)) < ata1)
  refine br.h h ?_ ?_ ?_
  · rfl
  · clear h; intro hb h; conv => whnf
    all_goals (cases h)
    all_goals exact rfl
  clear h; intro hb h; conv => whnf
  replace h := oreq.elim h; have hb := h.1; replace h := h.2
  first | (refine req.intro hb ?_; conv => whnf) | skip
  let t1 : List UInt8 := (s.drop ata1.toNat).take ((wI .i64 (ata1 + k)).toNat - ata1.toNat)
  refine pk_s2b ?_
  conv => whnf
  have hl := loop59_1 hS _ res _ _ _ h rfl; simp only [head59_1] at hl
  refine Leads.re hl [(0, 0)] rfl ?_ ?_ <;> (repeat' first | exact trivial | refine ⟨⟨_, rfl, rfl⟩, ?_⟩ | refine ⟨⟨_, _, rfl, rfl, .rowF (vI_flat _ _) id⟩, ?_⟩ | refine ⟨⟨_, _, rfl, rfl, .rowF (vS_flat _) id⟩, ?_⟩ | refine ⟨⟨_, _, rfl, rfl, .rowF (vB_flat _) id⟩, ?_⟩ | refine ⟨⟨_, _, rfl, rfl, .cells rfl⟩, ?_⟩ | refine ⟨⟨_, _, rfl, rfl, .row rfl id⟩, ?_⟩ | refine ⟨⟨_, _, rfl, rfl, .cr rfl⟩, ?_⟩ | refine ⟨⟨_, _, rfl, rfl, .rc rfl⟩, ?_⟩ | refine ⟨⟨_, _, rfl, rfl, .marks⟩, ?_⟩ | refine ⟨⟨_, _, rfl, rfl, .siter _ _⟩, ?_⟩ | refine ⟨⟨_, _, rfl, rfl, .loop rfl rfl rfl rfl (by repeat' first | exact trivial | refine ⟨rfl, ?_⟩) rfl rfl rfl rfl⟩, ?_⟩)
theorem ok59 (hS : SumsOK Try.prog (aget (sums59))) : SumOK Try.prog 59 (s59 (octet_GetF)) := by
  refine SumOK.of_leads tab_ok (fun ar r ha hr => ?_) ⟨Try.f59, rfl, by decide, rfl⟩
  simp only [s59] at ha hr
  unfold r59 at hr
  split at hr <;> try (cases hr; done)
  split at hr <;> cases hr
  rename_i x h
  refine ⟨_, rfl, (leads59 hS _ _ _ x h).mono fun v H t hp => ?_⟩
  cases hp
  exact Res.val rfl trivial
def octet_Get : (List UInt8) → Int → Int → Option (Int × Bool) := octet_GetF
theorem lift59 : SumOK Try.prog 59 (s59 octet_Get) := ok59 (SumsOK.of_tab trivial)
end Go.Vm.Code

namespace Go.Vm.Code
open Go Go.Vm Go.Proofs
set_option maxRecDepth 100000
set_option maxHeartbeats 4000000
set_option linter.unusedVariables false

/-! cloakroom/cloakroomref02.Put -/
def R02_Put_s1 (k : Int) (n1 : Int) (s : List UInt8) (i : Int) : Option (Sum (Int × (List UInt8) × Int) (List UInt8)) :=
  cond (decide (i < k))
    (
    cond (decide (k ≤ 8))
      (
      let t := [UInt8.ofNat (wI .u8 (n1.tmod 256)).toNat]
      oreq (decide (t.length + s.length < 2 ^ 63)) <|
      some (.inl (wI .u64 (n1.tdiv 256), t ++ s, wI .i64 (i + 1))))
      (
      some (.inr (s))))
    (
    some (.inr (s)))
def R02_PutF (n : Int) (k : Int) : Option (List UInt8) :=
  iter (fun st => R02_Put_s1 k st.1 st.2.1 st.2.2) FUEL (n, [], 0)
def post64 (x : List UInt8) (v : Value) (H : Hp) : Prop := v = .string ⟨⟨x⟩⟩
def r64 (g : Int → Int → Option (List UInt8)) : List SArg → Option SRes
  | [.v (.int .u64 a0_1), .v (.int .i64 a1_1)] => match g a0_1 a1_1 with | some x => some ⟨.string ⟨⟨x⟩⟩, [], []⟩ | none => none
  | _ => none
def s64 (g : Int → Int → Option (List UInt8)) : Summ := ⟨[.v, .v], r64 g⟩
theorem r64_eq {g : Int → Int → Option (List UInt8)} {a0_1 : Int} {a1_1 : Int} {x : List UInt8} (hx : g a0_1 a1_1 = some x) : (s64 g).run [.v (.int .u64 a0_1), .v (.int .i64 a1_1)] = some ⟨.string ⟨⟨x⟩⟩, [], []⟩ := by
  show r64 g [.v (.int .u64 a0_1), .v (.int .i64 a1_1)] = _
  simp only [r64, hx]
abbrev sums64 : List (Nat × Summ) := []
def head64_1 (k : Int) (n1 : Int) (s : List UInt8) (i : Int) : VM :=
  ⟨⟨64, 26, [(0, .int .u64 n1), (1, .int .i64 k), (5, .string ⟨⟨s⟩⟩), (6, .int .i64 i)], [.code k64_12, .inLoop k64_12, .inBlock 0, .code k64_17], [], false, none⟩, [], [], 0⟩
theorem loop64_1 (hS : SumsOK Try.prog (aget (sums64))) (k : Int) (res : List UInt8) : ∀ fuel (st : Int × (List UInt8) × Int) (o : List UInt8), iter (fun st => R02_Put_s1 k st.1 st.2.1 st.2.2) fuel st = some o → (o = res) →
    Leads Try.prog 64 0 (head64_1 k st.1 st.2.1 st.2.2) (fun v H _ => post64 res v H) := by
  intro fuel st o h hc
  refine iter_leads (head := fun st => head64_1 k st.1 st.2.1 st.2.2) (C := fun o => (o = res)) ?_ fuel st o h hc
  clear h hc o st fuel
  intro st o h hc
  obtain ⟨n1, s, i⟩ := st
  replace h : R02_Put_s1 k n1 s i = some o := h
  show Leads Try.prog 64 0 (head64_1 k n1 s i) (fun v H _ => post64 res v H)
  unfold R02_Put_s1 at h
  refine ev_ok tab_ok hS true 3000 ?_
  conv => whnf
  refine br.h2 h ?_ ?_ ?_
  · rfl
  · clear h; intro hb h; conv => whnf
    all_goals (cases h; cases hc)
    all_goals exact rfl
  clear h; intro hb h; conv => whnf
  refine br.h2 h ?_ ?_ ?_
  · rfl
  · clear h; intro hb h; conv => whnf
    all_goals (cases h; cases hc)
    all_goals exact rfl
  clear h; intro hb h; conv => whnf
  refine pk_b2sL rfl ?_
  conv => whnf
  let t : List UInt8 := [UInt8.ofNat (wI .u8 (n1.tmod 256)).toNat]
  replace h := oreq.elim h; have hb := h.1; replace h := h.2
  first | (refine req.intro hb ?_; conv => whnf) | skip
  cases h; simp only [Sum.elim_inl, Sum.elim_inr, head64_1] at hc
  refine Leads.re hc [] rfl ?_ ?_ <;> (repeat' first | exact trivial | refine ⟨⟨_, rfl, rfl⟩, ?_⟩ | refine ⟨⟨_, _, rfl, rfl, .rowF (vI_flat _ _) id⟩, ?_⟩ | refine ⟨⟨_, _, rfl, rfl, .rowF (vS_flat _) id⟩, ?_⟩ | refine ⟨⟨_, _, rfl, rfl, .rowF (vB_flat _) id⟩, ?_⟩ | refine ⟨⟨_, _, rfl, rfl, .cells rfl⟩, ?_⟩ | refine ⟨⟨_, _, rfl, rfl, .row rfl id⟩, ?_⟩ | refine ⟨⟨_, _, rfl, rfl, .cr rfl⟩, ?_⟩ | refine ⟨⟨_, _, rfl, rfl, .rc rfl⟩, ?_⟩ | refine ⟨⟨_, _, rfl, rfl, .marks⟩, ?_⟩ | refine ⟨⟨_, _, rfl, rfl, .siter _ _⟩, ?_⟩ | refine ⟨⟨_, _, rfl, rfl, .loop rfl rfl rfl rfl (by repeat' first | exact trivial | refine ⟨rfl, ?_⟩) rfl rfl rfl rfl⟩, ?_⟩)
theorem leads64 (hS : SumsOK Try.prog (aget (sums64))) (n : Int) (k : Int) (res : List UInt8) (h : R02_PutF n k = some res) :
    Leads Try.prog 64 0 ⟨⟨64, 26, [(0, .int .u64 n), (1, .int .i64 k)], [.code k64_20], [], false, none⟩, [], [], 0⟩ (fun v H _ => post64 res v H) := by
  unfold R02_PutF at h
  refine ev_ok tab_ok hS true 3000 ?_
  conv => whnf
  have hl := loop64_1 hS _ res _ _ _ h rfl; simp only [head64_1] at hl
  refine Leads.re hl [] rfl ?_ ?_ <;> (repeat' first | exact trivial | refine ⟨⟨_, rfl, rfl⟩, ?_⟩ | refine ⟨⟨_, _, rfl, rfl, .rowF (vI_flat _ _) id⟩, ?_⟩ | refine ⟨⟨_, _, rfl, rfl, .rowF (vS_flat _) id⟩, ?_⟩ | refine ⟨⟨_, _, rfl, rfl, .rowF (vB_flat _) id⟩, ?_⟩ | refine ⟨⟨_, _, rfl, rfl, .cells rfl⟩, ?_⟩ | refine ⟨⟨_, _, rfl, rfl, .row rfl id⟩, ?_⟩ | refine ⟨⟨_, _, rfl, rfl, .cr rfl⟩, ?_⟩ | refine ⟨⟨_, _, rfl, rfl, .rc rfl⟩, ?_⟩ | refine ⟨⟨_, _, rfl, rfl, .marks⟩, ?_⟩ | refine ⟨⟨_, _, rfl, rfl, .siter _ _⟩, ?_⟩ | refine ⟨⟨_, _, rfl, rfl, .loop rfl rfl rfl rfl (by repeat' first | exact trivial | refine ⟨rfl, ?_⟩) rfl rfl rfl rfl⟩, ?_⟩)
theorem ok64 (hS : SumsOK Try.prog (aget (sums64))) : SumOK Try.prog 64 (s64 (R02_PutF)) := by
  refine SumOK.of_leads tab_ok (fun ar r ha hr => ?_) ⟨Try.f64, rfl, by decide, rfl⟩
  simp only [s64] at ha hr
  unfold r64 at hr
  split at hr <;> try (cases hr; done)
  split at hr <;> cases hr
  rename_i x h
  refine ⟨_, rfl, (leads64 hS _ _ x h).mono fun v H t hp => ?_⟩
  cases hp
  exact Res.val rfl trivial
def R02_Put : Int → Int → Option (List UInt8) := R02_PutF
theorem lift64 : SumOK Try.prog 64 (s64 R02_Put) := ok64 (SumsOK.of_tab trivial)
end Go.Vm.Code

namespace Go.Vm.Code
open Go Go.Vm Go.Proofs
set_option maxRecDepth 100000
set_option maxHeartbeats 4000000
set_option linter.unusedVariables false

/-! cloakroom/cloakroomref02.Get -/
def R02_Get_s1 (s : List UInt8) (ata1 : Int) (k : Int) (n : Int) (i : Int) : Option (Sum (Int × Int) (Int × Bool)) :=
  cond (decide (i < k))
    (
    oreq (decide (0 ≤ (wI .i64 (ata1 + i)))) <|
    (s[(wI .i64 (ata1 + i)).toNat]?).bind fun (b : UInt8) =>
    let t1 := wI .u64 ((wI .u64 (n * 256)) + (wI .u64 (b.toNat : Int)))
    some (.inl (t1, wI .i64 (i + 1))))
    (
    some (.inr ((n, true))))
def R02_GetF (s : List UInt8) (ata1 : Int) (k : Int) : Option (Int × Bool) :=
  cond (decide (k < 1))
    (
    some ((0, false)))
    (
    cond (decide (k > 8))
      (
      some ((0, false)))
      (
      cond (decide (ata1 < 0))
        (
        some ((0, false)))
        (
        cond (decide (ata1 > (s.length : Int)))
          (
          some ((0, false)))
          (
          let t := decide (k > (wI .i64 ((s.length : Int) - ata1)))
          cond (t)
            (
            some ((0, false)))
            (
            iter (fun st => R02_Get_s1 s ata1 k st.1 st.2) FUEL (0, 0))))))
def post60 (x : Int × Bool) (v : Value) (H : Hp) : Prop := v = .tuple ⟨[.int .u64 x.1, .bool x.2]⟩
def r60 (g : (List UInt8) → Int → Int → Option (Int × Bool)) : List SArg → Option SRes
  | [.v (.string ⟨⟨a0_1⟩⟩), .v (.int .i64 a1_1), .v (.int .i64 a2_1)] => match g a0_1 a1_1 a2_1 with | some x => some ⟨.tuple ⟨[.int .u64 x.1, .bool x.2]⟩, [], []⟩ | none => none
  | _ => none
def s60 (g : (List UInt8) → Int → Int → Option (Int × Bool)) : Summ := ⟨[.v, .v, .v], r60 g⟩
theorem r60_eq {g : (List UInt8) → Int → Int → Option (Int × Bool)} {a0_1 : List UInt8} {a1_1 : Int} {a2_1 : Int} {x : Int × Bool} (hx : g a0_1 a1_1 a2_1 = some x) : (s60 g).run [.v (.string ⟨⟨a0_1⟩⟩), .v (.int .i64 a1_1), .v (.int .i64 a2_1)] = some ⟨.tuple ⟨[.int .u64 x.1, .bool x.2]⟩, [], []⟩ := by
  show r60 g [.v (.string ⟨⟨a0_1⟩⟩), .v (.int .i64 a1_1), .v (.int .i64 a2_1)] = _
  simp only [r60, hx]
abbrev sums60 : List (Nat × Summ) := []
def head60_1 (s : List UInt8) (ata1 : Int) (k : Int) (n : Int) (i : Int) : VM :=
  ⟨⟨60, 49, [(0, .string ⟨⟨s⟩⟩), (1, .int .i64 ata1), (2, .int .i64 k), (8, .int .u64 n), (9, .int .i64 i)], [.code k60_15, .inLoop k60_15, .inBlock 0, .code k60_20], [], false, none⟩, [], [], 0⟩
theorem loop60_1 (hS : SumsOK Try.prog (aget (sums60))) (s : List UInt8) (ata1 : Int) (k : Int) (res : Int × Bool) : ∀ fuel (st : Int × Int) (o : Int × Bool), iter (fun st => R02_Get_s1 s ata1 k st.1 st.2) fuel st = some o → (o = res) →
    Leads Try.prog 60 0 (head60_1 s ata1 k st.1 st.2) (fun v H _ => post60 res v H) := by
  intro fuel st o h hc
  refine iter_leads (head := fun st => head60_1 s ata1 k st.1 st.2) (C := fun o => (o = res)) ?_ fuel st o h hc
  clear h hc o st fuel
  intro st o h hc
  obtain ⟨n, i⟩ := st
  replace h : R02_Get_s1 s ata1 k n i = some o := h
  show Leads Try.prog 60 0 (head60_1 s ata1 k n i) (fun v H _ => post60 res v H)
  unfold R02_Get_s1 at h
  refine ev_ok tab_ok hS true 3000 ?_
  conv => whnf
  refine br.h2 h ?_ ?_ ?_
  · rfl
  · clear h; intro hb h; conv => whnf
    all_goals (cases h; cases hc)
    all_goals exact rfl
  clear h; intro hb h; conv => whnf
  replace h := oreq.elim h; have hb := h.1; replace h := h.2
  first | (refine req.intro hb ?_; conv => whnf) | skip
  obtain ⟨b, hy, h2⟩ := obind.elim h; clear h; have h := h2; clear h2
  refine rdS.intro hy ?_
  conv => whnf
  let t1 : Int := wI .u64 ((wI .u64 (n * 256)) + (wI .u64 (b.toNat : Int)))
  cases h; simp only [Sum.elim_inl, Sum.elim_inr, head60_1] at hc
  refine Leads.re hc [] rfl ?_ ?_ <;> (repeat' first | exact trivial | refine ⟨⟨_, rfl, rfl⟩, ?_⟩ | refine ⟨⟨_, _, rfl, rfl, .rowF (vI_flat _ _) id⟩, ?_⟩ | refine ⟨⟨_, _, rfl, rfl, .rowF (vS_flat _) id⟩, ?_⟩ | refine ⟨⟨_, _, rfl, rfl, .rowF (vB_flat _) id⟩, ?_⟩ | refine ⟨⟨_, _, rfl, rfl, .cells rfl⟩, ?_⟩ | refine ⟨⟨_, _, rfl, rfl, .row rfl id⟩, ?_⟩ | refine ⟨⟨_, _, rfl, rfl, .cr rfl⟩, ?_⟩ | refine ⟨⟨_, _, rfl, rfl, .rc rfl⟩, ?_⟩ | refine ⟨⟨_, _, rfl, rfl, .marks⟩, ?_⟩ | refine ⟨⟨_, _, rfl, rfl, .siter _ _⟩, ?_⟩ | refine ⟨⟨_, _, rfl, rfl, .loop rfl rfl rfl rfl (by repeat' first | exact trivial | refine ⟨rfl, ?_⟩) rfl rfl rfl rfl⟩, ?_⟩)
theorem leads60 (hS : SumsOK Try.prog (aget (sums60))) (s : List UInt8) (ata1 : Int) (k : Int) (res : Int × Bool) (h : R02_GetF s ata1 k = some res) :
    Leads Try.prog 60 0 ⟨⟨60, 49, [(0, .string ⟨⟨s⟩⟩), (1, .int .i64 ata1), (2, .int .i64 k)], [.code k60_24], [], false, none⟩, [], [], 0⟩ (fun v H _ => post60 res v H) := by
  unfold R02_GetF at h
  refine ev_ok tab_ok hS true 3000 ?_
  conv => whnf
  refine br.h h ?_ ?_ ?_
  · rfl
  · clear h; intro hb h; conv => whnf
    all_goals (cases h)
    all_goals exact rfl
  clear h; intro hb h; conv => whnf
  refine br.h h ?_ ?_ ?_
  · rfl
  · clear h; intro hb h; conv => whnf
    all_goals (cases h)
    all_goals exact rfl
  clear h; intro hb h; conv => whnf
  refine br.h h ?_ ?_ ?_
  · rfl
  · clear h; intro hb h; conv => whnf
    all_goals (cases h)
    all_goals exact rfl
  clear h; intro hb h; conv => whnf
  refine br.h h ?_ ?_ ?_
  · rfl
  · clear h; intro hb h; conv => whnf
    all_goals (cases h)
    all_goals exact rfl
  clear h; intro hb h; conv => whnf
  let t : Bool := decide (k > (wI .i64 ((s.length : Int) - ata1)))
  refine br.h h ?_ ?_ ?_
  · rfl
  · clear h; intro hb h; conv => whnf
    all_goals (cases h)
    all_goals exact rfl
  clear h; intro hb h; conv => whnf
  have hl := loop60_1 hS _ _ _ res _ _ _ h rfl; simp only [head60_1] at hl
  refine Leads.re hl [] rfl ?_ ?_ <;> (repeat' first | exact trivial | refine ⟨⟨_, rfl, rfl⟩, ?_⟩ | refine ⟨⟨_, _, rfl, rfl, .rowF (vI_flat _ _) id⟩, ?_⟩ | refine ⟨⟨_, _, rfl, rfl, .rowF (vS_flat _) id⟩, ?_⟩ | refine ⟨⟨_, _, rfl, rfl, .rowF (vB_flat _) id⟩, ?_⟩ | refine ⟨⟨_, _, rfl, rfl, .cells rfl⟩, ?_⟩ | refine ⟨⟨_, _, rfl, rfl, .row rfl id⟩, ?_⟩ | refine ⟨⟨_, _, rfl, rfl, .cr rfl⟩, ?_⟩ | refine ⟨⟨_, _, rfl, rfl, .rc rfl⟩, ?_⟩ | refine ⟨⟨_, _, rfl, rfl, .marks⟩, ?_⟩ | refine ⟨⟨_, _, rfl, rfl, .siter _ _⟩, ?_⟩ | refine ⟨⟨_, _, rfl, rfl, .loop rfl rfl rfl rfl (by repeat' first | exact trivial | refine ⟨rfl, ?_⟩) rfl rfl rfl rfl⟩, ?_⟩)
theorem ok60 (hS : SumsOK Try.prog (aget (sums60))) : SumOK Try.prog 60 (s60 (R02_GetF)) := by
  refine SumOK.of_leads tab_ok (fun ar r ha hr => ?_) ⟨Try.f60, rfl, by decide, rfl⟩
  simp only [s60] at ha hr
  unfold r60 at hr
  split at hr <;> try (cases hr; done)
  split at hr <;> cases hr
  rename_i x h
  refine ⟨_, rfl, (leads60 hS _ _ _ x h).mono fun v H t hp => ?_⟩
  cases hp
  exact Res.val rfl trivial
def R02_Get : (List UInt8) → Int → Int → Option (Int × Bool) := R02_GetF
theorem lift60 : SumOK Try.prog 60 (s60 R02_Get) := ok60 (SumsOK.of_tab trivial)
end Go.Vm.Code

namespace Go.Vm.Code
open Go Go.Vm Go.Proofs
set_option maxRecDepth 100000
set_option maxHeartbeats 4000000
set_option linter.unusedVariables false

/-! cloakroom/cloakroomref02.Must -/
def R02_MustF (R02_Get : (List UInt8) → Int → Int → Option (Int × Bool)) (s : List UInt8) (ata1 : Int) (k : Int) : Option Int :=
  (R02_Get s ata1 k).bind fun xg =>
  some (wI .i64 xg.1)
def post79 (x : Int) (v : Value) (H : Hp) : Prop := v = .int .i64 x
def r79 (g : (List UInt8) → Int → Int → Option Int) : List SArg → Option SRes
  | [.v (.string ⟨⟨a0_1⟩⟩), .v (.int .i64 a1_1), .v (.int .i64 a2_1)] => match g a0_1 a1_1 a2_1 with | some x => some ⟨.int .i64 x, [], []⟩ | none => none
  | _ => none
def s79 (g : (List UInt8) → Int → Int → Option Int) : Summ := ⟨[.v, .v, .v], r79 g⟩
theorem r79_eq {g : (List UInt8) → Int → Int → Option Int} {a0_1 : List UInt8} {a1_1 : Int} {a2_1 : Int} {x : Int} (hx : g a0_1 a1_1 a2_1 = some x) : (s79 g).run [.v (.string ⟨⟨a0_1⟩⟩), .v (.int .i64 a1_1), .v (.int .i64 a2_1)] = some ⟨.int .i64 x, [], []⟩ := by
  show r79 g [.v (.string ⟨⟨a0_1⟩⟩), .v (.int .i64 a1_1), .v (.int .i64 a2_1)] = _
  simp only [r79, hx]
abbrev sums79 (R02_Get : (List UInt8) → Int → Int → Option (Int × Bool)) : List (Nat × Summ) := [(60, s60 R02_Get)]
theorem leads79 (R02_Get : (List UInt8) → Int → Int → Option (Int × Bool)) (hS : SumsOK Try.prog (aget (sums79 R02_Get))) (s : List UInt8) (ata1 : Int) (k : Int) (res : Int) (h : R02_MustF R02_Get s ata1 k = some res) :
    Leads Try.prog 79 0 ⟨⟨79, 18, [(0, .string ⟨⟨s⟩⟩), (1, .int .i64 ata1), (2, .int .i64 k)], [.code k79_5], [], false, none⟩, [], [], 0⟩ (fun v H _ => post79 res v H) := by
  unfold R02_MustF at h
  refine ev_ok tab_ok hS true 3000 ?_
  conv => whnf
  obtain ⟨xg, hy, h2⟩ := obind.elim h; clear h; have h := h2; clear h2
  refine sumK.introF [] (sumRun_of (aqs := [.v (.string ⟨⟨s⟩⟩), .v (.int .i64 ata1), .v (.int .i64 k)]) (ra_cons rfl (ra_cons rfl (ra_cons rfl ra_nil))) (r60_eq hy) rfl rfl rfl rfl) ?_
  conv => whnf
  all_goals (cases h)
  all_goals exact rfl
theorem ok79 (R02_Get : (List UInt8) → Int → Int → Option (Int × Bool)) (hS : SumsOK Try.prog (aget (sums79 R02_Get))) : SumOK Try.prog 79 (s79 (R02_MustF R02_Get)) := by
  refine SumOK.of_leads tab_ok (fun ar r ha hr => ?_) ⟨Try.f79, rfl, by decide, rfl⟩
  simp only [s79] at ha hr
  unfold r79 at hr
  split at hr <;> try (cases hr; done)
  split at hr <;> cases hr
  rename_i x h
  refine ⟨_, rfl, (leads79 R02_Get hS _ _ _ x h).mono fun v H t hp => ?_⟩
  cases hp
  exact Res.val rfl trivial
def R02_Must : (List UInt8) → Int → Int → Option Int := R02_MustF R02_Get
theorem lift79 : SumOK Try.prog 79 (s79 R02_Must) := ok79 R02_Get (SumsOK.of_tab ⟨lift60, trivial⟩)
end Go.Vm.Code

/- Chapter 2's numbers and bytes: what the lifted functions compute. -/
namespace Go.Vm.Code
open Go Go.Vm

def putS (n k : Int) : List UInt8 := if 1 ≤ k ∧ k ≤ 8 then be n.toNat k.toNat else []
theorem octet_Put_eq {n k : Int} (h0 : 0 ≤ n) : octet_Put n k = some (putS n k) := by
  unfold octet_Put octet_PutF putS
  by_cases h1 : k < 1
  · rw [cond_p h1, if_neg (by omega)]
  by_cases h2 : k > 8
  · rw [cond_n h1, cond_p h2, if_neg (by omega)]
  rw [cond_n h1, cond_n h2, oreq_p (by omega), if_pos (by omega)]
  obtain ⟨m, rfl⟩ := Int.eq_ofNat_of_zero_le h0
  obtain ⟨j, rfl⟩ := Int.eq_ofNat_of_zero_le (show 0 ≤ k by omega)
  have key := iter_eq (step := fun (st : Int × List Int) => octet_Put_s1 (m : Int) (j : Int) st.1 st.2) (fun st => iB (st.2.take st.1.toNat) ++ be m (j - st.1.toNat)) (fun st => 0 ≤ st.1 ∧ st.1 ≤ j ∧ st.2.length = j) (fun st => (j - st.1).toNat) ?_ FUEL (0, List.replicate (j : Int).toNat 0) ⟨by simp, by simp, by simp⟩ (by rw [FUEL_eq]; simp only; omega)
  · rw [key]; simp [iB]
  rintro ⟨p, b⟩ ⟨g1, g2, g3⟩
  simp only at g1 g2 g3 ⊢
  obtain ⟨i, rfl⟩ := Int.eq_ofNat_of_zero_le g1
  unfold octet_Put_s1
  by_cases hp : i < j
  · refine .inr ⟨(((i + 1 : Nat) : Int), b.set i ((m / 256 ^ (j - 1 - i) % 256 : Nat) : Int)), ?_, ⟨by simp only; omega, by simp only; omega, by simp [g3]⟩, by simp only; omega, ?_⟩
    · simp (disch := omega) only [wI64, oreq_p, cond_p, Int.toNat_natCast]
      have e1 : min (8 * ((j : Int) - 1 - i)).toNat 64 = 8 * (j - 1 - i) := by omega
      have e0 : (2 : Int) ^ (8 * (j - 1 - i)) = ((256 ^ (j - 1 - i) : Nat) : Int) := by rw [show (256 : Nat) = 2 ^ 8 from rfl, ← Nat.pow_mul]; push_cast; rfl
      rw [e1, fdivP, wU8m, e0]
      rfl
    · simp only [Int.toNat_natCast]
      have e2 : j - i = (j - (i + 1)) + 1 := by omega
      have e3 : j - (i + 1) = j - 1 - i := by omega
      have e4 : (b.set i ((m / 256 ^ (j - 1 - i) % 256 : Nat) : Int)).take (i + 1) = b.take i ++ [((m / 256 ^ (j - 1 - i) % 256 : Nat) : Int)] := by
        rw [List.take_succ_eq_append_getElem (by simp; omega), List.take_set_of_le (Nat.le_refl _), List.getElem_set_self]
      rw [e2, e4, be, e3]
      simp only [iB, List.map_append, List.map_cons, List.map_nil, List.append_assoc, List.cons_append, List.nil_append, Int.toNat_natCast]
      congr 2
      apply UInt8.toNat_inj.1
      simp
  · refine .inl ?_
    obtain rfl : i = j := by omega
    simp (disch := omega) only [cond_n, oreq_p, Int.toNat_natCast]
    simp [be]
theorem R02_Put_eq {n k : Int} (h0 : 0 ≤ n) (h1 : n < 2 ^ 64) : R02_Put n k = some (putS n k) := by
  unfold R02_Put R02_PutF putS
  obtain ⟨m, rfl⟩ := Int.eq_ofNat_of_zero_le h0
  by_cases hk : 1 ≤ k ∧ k ≤ 8
  · rw [if_pos hk]
    obtain ⟨j, rfl⟩ := Int.eq_ofNat_of_zero_le (show 0 ≤ k by omega)
    have key := iter_eq (step := fun st => R02_Put_s1 (j : Int) st.1 st.2.1 st.2.2) (fun st => be st.1.toNat (j - st.2.2.toNat) ++ st.2.1) (fun st => 0 ≤ st.1 ∧ st.1 < 2 ^ 64 ∧ 0 ≤ st.2.2 ∧ st.2.2 ≤ j ∧ st.2.1.length < 2 ^ 20 + st.2.2.toNat) (fun st => (j - st.2.2).toNat) ?_ FUEL ((m : Int), [], 0) ⟨by simp, by simp only; omega, by simp, by simp, by simp⟩ (by rw [FUEL_eq]; simp only; omega)
    · rw [key]; simp
    rintro ⟨n, s, p⟩ ⟨g1, g2, g3, g4, g5⟩
    simp only at g1 g2 g3 g4 g5 ⊢
    obtain ⟨i, rfl⟩ := Int.eq_ofNat_of_zero_le g3
    obtain ⟨x, rfl⟩ := Int.eq_ofNat_of_zero_le g1
    unfold R02_Put_s1
    by_cases hp : i < j
    · refine .inr ⟨(((x / 256 : Nat) : Int), UInt8.ofNat x :: s, ((i + 1 : Nat) : Int)), ?_, ⟨by simp only; omega, by simp only; omega, by simp only; omega, by simp only; omega, by simp at g5 ⊢; omega⟩, by simp only; omega, ?_⟩
      · have e1 : (x : Int).tmod 256 = ((x % 256 : Nat) : Int) := by rw [Int.tmod_eq_emod_of_nonneg (by omega)]; rfl
        have e2 : (x : Int).tdiv 256 = ((x / 256 : Nat) : Int) := by rw [Int.tdiv_eq_ediv_of_nonneg (by omega)]; rfl
        rw [cond_p (by omega), cond_p (by omega), e1, e2, wU8 (by omega) (by omega)]
        simp only [List.length_cons, List.length_nil]
        rw [oreq_p (by omega), wU64 (by omega) (by omega), wI64 (by omega) (by omega), Int.toNat_natCast]
        have e3 : UInt8.ofNat (x % 256) = UInt8.ofNat x := by apply UInt8.toNat_inj.1; simp
        rw [e3]; rfl
      · simp only [Int.toNat_natCast]
        have e2 : j - i = (j - (i + 1)) + 1 := by omega
        rw [e2, be_snoc]; simp
    · refine .inl ?_
      obtain rfl : i = j := by omega
      rw [cond_n (by omega)]
      simp [be]
  · rw [if_neg hk]
    show iter _ (18446744073709551615 + 1) _ = _
    rw [iter]
    have : R02_Put_s1 k (m : Int) [] 0 = some (.inr []) := by
      unfold R02_Put_s1
      by_cases h2 : 0 < k
      · rw [cond_p h2, cond_n (by omega)]
      · rw [cond_n h2]
    simp only [this]

/-- a number read -/
def getS (s : List UInt8) (p k : Int) : Int × Bool := if 1 ≤ k ∧ k ≤ 8 ∧ 0 ≤ p ∧ p + k ≤ s.length then (((valL ((s.drop p.toNat).take k.toNat) : Nat) : Int), true) else (0, false)
theorem pow_step {v i : Nat} (h : v < 256 ^ i) (hi : i ≤ 7) : v < 2 ^ 56 := Nat.lt_of_lt_of_le h (by
  have : (256 : Nat) ^ i ≤ 256 ^ 7 := Nat.pow_le_pow_right (by decide) hi
  simpa using this)
theorem octet_Get_eq {s : List UInt8} {p k : Int} (hs : s.length < 2 ^ 61) : octet_Get s p k = some (getS s p k) := by
  unfold octet_Get octet_GetF getS
  by_cases h1 : k < 1
  · rw [cond_p h1, if_neg (by omega)]
  by_cases h2 : k > 8
  · rw [cond_n h1, cond_p h2, if_neg (by omega)]
  by_cases h3 : p < 0
  · rw [cond_n h1, cond_n h2, cond_p h3, if_neg (by omega)]
  rw [cond_n h1, cond_n h2, cond_n h3, wI64 (n := (s.length : Int) - k) (by omega) (by omega)]
  by_cases h4 : (s.length : Int) - k < p
  · simp only []
    rw [cond_p h4, if_neg (by omega)]
  simp only []
  rw [cond_n h4, wI64 (n := p + k) (by omega) (by omega), oreq_p (by omega), if_pos (by omega)]
  obtain ⟨q, rfl⟩ := Int.eq_ofNat_of_zero_le (show 0 ≤ p by omega)
  obtain ⟨j, rfl⟩ := Int.eq_ofNat_of_zero_le (show 0 ≤ k by omega)
  have e : ((q : Int) + j).toNat - (q : Int).toNat = j := by omega
  rw [e]
  simp only [Int.toNat_natCast]
  generalize ht : (s.drop q).take j = t
  have hl : t.length = j := by rw [← ht]; simp; omega
  have key := iter_eq (step := fun st => octet_Get_s1 t st.1 st.2) (fun st => (((st.1.toNat * 256 ^ (j - st.2.toNat) + valL (t.drop st.2.toNat) : Nat) : Int), true)) (fun st => 0 ≤ st.1 ∧ 0 ≤ st.2 ∧ st.2 ≤ j ∧ st.1.toNat < 256 ^ st.2.toNat) (fun st => (j - st.2).toNat) ?_ FUEL (0, 0) ⟨by simp, by simp, by simp, by simp⟩ (by rw [FUEL_eq]; simp only; omega)
  · rw [key]; simp
  rintro ⟨n, x⟩ ⟨g1, g2, g3, g4⟩
  simp only at g1 g2 g3 g4 ⊢
  obtain ⟨i, rfl⟩ := Int.eq_ofNat_of_zero_le g2
  obtain ⟨v, rfl⟩ := Int.eq_ofNat_of_zero_le g1
  simp only [Int.toNat_natCast] at g4 ⊢
  unfold octet_Get_s1
  by_cases hp : i < j
  · have hlt : i < t.length := by omega
    have hb := t[i].toNat_lt
    have hv := pow_step g4 (by omega)
    refine .inr ⟨(((v * 256 + t[i].toNat : Nat) : Int), ((i + 1 : Nat) : Int)), ?_, ⟨by simp only; omega, by simp only; omega, by simp only; omega, ?_⟩, by simp only; omega, ?_⟩
    · rw [cond_p (by omega), oreq_p (by omega)]
      have e1 : (bI t)[(i : Int).toNat]? = some (t[i].toNat : Int) := by simp [bI, hlt]
      rw [e1, Option.bind_some]
      have e2 : iorI .u64 (wI .u64 ((v : Int) * 2 ^ 8)) (wI .u64 (t[i].toNat : Int)) = ((v * 256 + t[i].toNat : Nat) : Int) := by
        rw [wU64 (by omega) (by omega), wU64 (by omega) (by omega), iorU64_low 8 (by omega) (by omega) (by omega) (by omega) (by omega)]; omega
      simp only [e2]
      rw [wI64 (by omega) (by omega)]; rfl
    · simp only [Int.toNat_natCast]
      rw [Nat.pow_succ]; omega
    · simp only [Int.toNat_natCast]
      rw [List.drop_eq_getElem_cons hlt, val_cons]
      have e3 : (t.drop (i + 1)).length = j - (i + 1) := by simp; omega
      have e4 : j - i = (j - (i + 1)) + 1 := by omega
      rw [e3, e4, Nat.pow_succ, Nat.add_mul, Nat.mul_assoc, Nat.mul_comm 256, Nat.add_assoc]
  · refine .inl ?_
    obtain rfl : i = j := by omega
    rw [cond_n (by omega)]
    simp [← hl]
theorem R02_Get_eq {s : List UInt8} {p k : Int} (hs : s.length < 2 ^ 61) : R02_Get s p k = some (getS s p k) := by
  unfold R02_Get R02_GetF getS
  by_cases h1 : k < 1
  · rw [cond_p h1, if_neg (by omega)]
  by_cases h2 : k > 8
  · rw [cond_n h1, cond_p h2, if_neg (by omega)]
  by_cases h3 : p < 0
  · rw [cond_n h1, cond_n h2, cond_p h3, if_neg (by omega)]
  by_cases h5 : p > s.length
  · rw [cond_n h1, cond_n h2, cond_n h3, cond_p h5, if_neg (by omega)]
  rw [cond_n h1, cond_n h2, cond_n h3, cond_n h5, wI64 (n := (s.length : Int) - p) (by omega) (by omega)]
  by_cases h4 : k > (s.length : Int) - p
  · simp only []
    rw [cond_p h4, if_neg (by omega)]
  simp only []
  rw [cond_n h4, if_pos (by omega)]
  obtain ⟨q, rfl⟩ := Int.eq_ofNat_of_zero_le (show 0 ≤ p by omega)
  obtain ⟨j, rfl⟩ := Int.eq_ofNat_of_zero_le (show 0 ≤ k by omega)
  simp only [Int.toNat_natCast]
  generalize ht : (s.drop q).take j = t
  have hl : t.length = j := by rw [← ht]; simp; omega
  have key := iter_eq (step := fun st => R02_Get_s1 s (q : Int) (j : Int) st.1 st.2) (fun st => (((st.1.toNat * 256 ^ (j - st.2.toNat) + valL (t.drop st.2.toNat) : Nat) : Int), true)) (fun st => 0 ≤ st.1 ∧ 0 ≤ st.2 ∧ st.2 ≤ j ∧ st.1.toNat < 256 ^ st.2.toNat) (fun st => (j - st.2).toNat) ?_ FUEL (0, 0) ⟨by simp, by simp, by simp, by simp⟩ (by rw [FUEL_eq]; simp only; omega)
  · rw [key]; simp
  rintro ⟨n, x⟩ ⟨g1, g2, g3, g4⟩
  simp only at g1 g2 g3 g4 ⊢
  obtain ⟨i, rfl⟩ := Int.eq_ofNat_of_zero_le g2
  obtain ⟨v, rfl⟩ := Int.eq_ofNat_of_zero_le g1
  simp only [Int.toNat_natCast] at g4 ⊢
  unfold R02_Get_s1
  by_cases hp : i < j
  · have hlt : i < t.length := by omega
    have hb := t[i].toNat_lt
    have hv := pow_step g4 (by omega)
    refine .inr ⟨(((v * 256 + t[i].toNat : Nat) : Int), ((i + 1 : Nat) : Int)), ?_, ⟨by simp only; omega, by simp only; omega, by simp only; omega, ?_⟩, by simp only; omega, ?_⟩
    · rw [cond_p (by omega), wI64 (n := (q : Int) + i) (by omega) (by omega), oreq_p (by omega)]
      have e0 : ((q : Int) + i).toNat = q + i := by omega
      have e1 : s[q + i]? = some t[i] := by
        subst ht
        rw [List.getElem?_eq_getElem (by omega)]
        simp
      rw [e0, e1, Option.bind_some]
      have e2 : wI .u64 ((wI .u64 ((v : Int) * 256)) + (wI .u64 (t[i].toNat : Int))) = ((v * 256 + t[i].toNat : Nat) : Int) := by
        rw [wU64 (n := (v : Int) * 256) (by omega) (by omega), wU64 (n := (t[i].toNat : Int)) (by omega) (by omega), wU64 (by omega) (by omega)]; omega
      simp only [e2]
      rw [wI64 (by omega) (by omega)]; rfl
    · simp only [Int.toNat_natCast]
      rw [Nat.pow_succ]; omega
    · simp only [Int.toNat_natCast]
      rw [List.drop_eq_getElem_cons hlt, val_cons]
      have e3 : (t.drop (i + 1)).length = j - (i + 1) := by simp; omega
      have e4 : j - i = (j - (i + 1)) + 1 := by omega
      rw [e3, e4, Nat.pow_succ, Nat.add_mul, Nat.mul_assoc, Nat.mul_comm 256, Nat.add_assoc]
  · refine .inl ?_
    obtain rfl : i = j := by omega
    rw [cond_n (by omega)]
    simp [← hl]
theorem R02_Must_eq {s : List UInt8} {p k : Int} (hs : s.length < 2 ^ 61) : R02_Must s p k = some (wI .i64 (getS s p k).1) := by
  unfold R02_Must R02_MustF
  rw [R02_Get_eq hs]; rfl
end Go.Vm.Code

namespace Go.Vm.Code
open Go Go.Vm Go.Proofs
set_option maxRecDepth 100000
set_option maxHeartbeats 4000000
set_option linter.unusedVariables false

/-! (*cloakroom/octet.Reader).Bad -/
def octet_Reader_BadF (ra0 : octet_Reader) : Option (Bool × octet_Reader) :=
  cond (!ra0.made)
    (
    some ((true, ra0)))
    (
    some ((ra0.bad, ra0)))
def post74 (x : Bool × octet_Reader) (v : Value) (H : Hp) : Prop := v = .bool x.1 ∧ aget H 0 = some (.cells [.string ⟨⟨x.2.s⟩⟩, .bool x.2.made, .bool x.2.bad])
def r74 (g : octet_Reader → Option (Bool × octet_Reader)) : List SArg → Option SRes
  | [.pt [.string ⟨⟨a0_1⟩⟩, .bool a0_2, .bool a0_3]] => match g (octet_Reader.mk a0_1 a0_2 a0_3) with | some x => some ⟨.bool x.1, [], [[.string ⟨⟨x.2.s⟩⟩, .bool x.2.made, .bool x.2.bad]]⟩ | none => none
  | _ => none
def s74 (g : octet_Reader → Option (Bool × octet_Reader)) : Summ := ⟨[.pt 3], r74 g⟩
theorem r74_eq {g : octet_Reader → Option (Bool × octet_Reader)} {a0_1 : List UInt8} {a0_2 : Bool} {a0_3 : Bool} {x : Bool × octet_Reader} (hx : g (octet_Reader.mk a0_1 a0_2 a0_3) = some x) : (s74 g).run [.pt [.string ⟨⟨a0_1⟩⟩, .bool a0_2, .bool a0_3]] = some ⟨.bool x.1, [], [[.string ⟨⟨x.2.s⟩⟩, .bool x.2.made, .bool x.2.bad]]⟩ := by
  show r74 g [.pt [.string ⟨⟨a0_1⟩⟩, .bool a0_2, .bool a0_3]] = _
  simp only [r74, hx]
abbrev sums74 : List (Nat × Summ) := []
theorem leads74 (hS : SumsOK Try.prog (aget (sums74))) (ra0 : octet_Reader) (res : Bool × octet_Reader) (h : octet_Reader_BadF ra0 = some res) :
    Leads Try.prog 74 1 ⟨⟨74, 18, [(0, .pointer (some ⟨0, 0, none⟩))], [.code k74_3], [], false, none⟩, [], [(0, .cells [.string ⟨⟨ra0.s⟩⟩, .bool ra0.made, .bool ra0.bad])], 1⟩ (fun v H _ => post74 res v H) := by
  unfold octet_Reader_BadF at h
  refine ev_ok tab_ok hS true 3000 ?_
  conv => whnf
  refine br.h h ?_ ?_ ?_
  · rfl
  · clear h; intro hb h; conv => whnf
    all_goals (cases h)
    all_goals exact ⟨rfl, rfl⟩
  clear h; intro hb h; conv => whnf
  all_goals (cases h)
  all_goals exact ⟨rfl, rfl⟩
theorem ok74 (hS : SumsOK Try.prog (aget (sums74))) : SumOK Try.prog 74 (s74 (octet_Reader_BadF)) := by
  refine SumOK.of_leads tab_ok (fun ar r ha hr => ?_) ⟨Try.f74, rfl, by decide, rfl⟩
  simp only [s74] at ha hr
  unfold r74 at hr
  split at hr <;> try (cases hr; done)
  split at hr <;> cases hr
  rename_i x h
  refine ⟨_, rfl, (leads74 hS _ x h).mono fun v H t hp => ?_⟩
  obtain ⟨rfl, h0⟩ := hp
  exact Res.val rfl ⟨h0, rfl, trivial⟩
def octet_Reader_Bad : octet_Reader → Option (Bool × octet_Reader) := octet_Reader_BadF
theorem lift74 : SumOK Try.prog 74 (s74 octet_Reader_Bad) := ok74 (SumsOK.of_tab trivial)
end Go.Vm.Code

namespace Go.Vm.Code
open Go Go.Vm Go.Proofs
set_option maxRecDepth 100000
set_option maxHeartbeats 4000000
set_option linter.unusedVariables false

/-! (*cloakroom/octet.Reader).Text -/
def octet_Reader_TextF (octet_Reader_Bad : octet_Reader → Option (Bool × octet_Reader)) (ra0 : octet_Reader) (n : Int) : Option ((List UInt8) × octet_Reader) :=
  (octet_Reader_Bad ra0).bind fun b =>
  cond (b.1)
    (
    some (([], b.2)))
    (
    cond (decide (n < 0))
      (
      some (([], octet_Reader.mk b.2.s b.2.made true)))
      (
      cond (decide (n > (b.2.s.length : Int)))
        (
        some (([], octet_Reader.mk b.2.s b.2.made true)))
        (
        oreq (decide ((0 : Int) ≤ n ∧ n ≤ (b.2.s.length : Int))) <|
        oreq (decide ((0 : Int) ≤ n ∧ n ≤ (b.2.s.length : Int))) <|
        let t := (b.2.s.drop n.toNat).take (b.2.s.length - n.toNat)
        some ((b.2.s.take n.toNat, octet_Reader.mk t b.2.made b.2.bad)))))
def post70 (x : (List UInt8) × octet_Reader) (v : Value) (H : Hp) : Prop := v = .string ⟨⟨x.1⟩⟩ ∧ aget H 0 = some (.cells [.string ⟨⟨x.2.s⟩⟩, .bool x.2.made, .bool x.2.bad])
def r70 (g : octet_Reader → Int → Option ((List UInt8) × octet_Reader)) : List SArg → Option SRes
  | [.pt [.string ⟨⟨a0_1⟩⟩, .bool a0_2, .bool a0_3], .v (.int .i64 a1_1)] => match g (octet_Reader.mk a0_1 a0_2 a0_3) a1_1 with | some x => some ⟨.string ⟨⟨x.1⟩⟩, [], [[.string ⟨⟨x.2.s⟩⟩, .bool x.2.made, .bool x.2.bad]]⟩ | none => none
  | _ => none
def s70 (g : octet_Reader → Int → Option ((List UInt8) × octet_Reader)) : Summ := ⟨[.pt 3, .v], r70 g⟩
theorem r70_eq {g : octet_Reader → Int → Option ((List UInt8) × octet_Reader)} {a0_1 : List UInt8} {a0_2 : Bool} {a0_3 : Bool} {a1_1 : Int} {x : (List UInt8) × octet_Reader} (hx : g (octet_Reader.mk a0_1 a0_2 a0_3) a1_1 = some x) : (s70 g).run [.pt [.string ⟨⟨a0_1⟩⟩, .bool a0_2, .bool a0_3], .v (.int .i64 a1_1)] = some ⟨.string ⟨⟨x.1⟩⟩, [], [[.string ⟨⟨x.2.s⟩⟩, .bool x.2.made, .bool x.2.bad]]⟩ := by
  show r70 g [.pt [.string ⟨⟨a0_1⟩⟩, .bool a0_2, .bool a0_3], .v (.int .i64 a1_1)] = _
  simp only [r70, hx]
abbrev sums70 (octet_Reader_Bad : octet_Reader → Option (Bool × octet_Reader)) : List (Nat × Summ) := [(74, s74 octet_Reader_Bad)]
theorem leads70 (octet_Reader_Bad : octet_Reader → Option (Bool × octet_Reader)) (hS : SumsOK Try.prog (aget (sums70 octet_Reader_Bad))) (ra0 : octet_Reader) (n : Int) (res : (List UInt8) × octet_Reader) (h : octet_Reader_TextF octet_Reader_Bad ra0 n = some res) :
    Leads Try.prog 70 1 ⟨⟨70, 38, [(0, .pointer (some ⟨0, 0, none⟩)), (1, .int .i64 n)], [.code k70_21], [], false, none⟩, [], [(0, .cells [.string ⟨⟨ra0.s⟩⟩, .bool ra0.made, .bool ra0.bad])], 1⟩ (fun v H _ => post70 res v H) := by
  unfold octet_Reader_TextF at h
  refine ev_ok tab_ok hS true 3000 ?_
  conv => whnf
  obtain ⟨b, hy, h2⟩ := obind.elim h; clear h; have h := h2; clear h2
  refine sumK.introF [0] (sumRun_of (aqs := [.pt [.string ⟨⟨ra0.s⟩⟩, .bool ra0.made, .bool ra0.bad]]) (ra_cons rfl ra_nil) (r74_eq hy) rfl rfl rfl rfl) ?_
  conv => whnf
  refine br.h h ?_ ?_ ?_
  · rfl
  · clear h; intro hb h; conv => whnf
    all_goals (cases h)
    all_goals exact ⟨rfl, rfl⟩
  clear h; intro hb h; conv => whnf
  refine br.h h ?_ ?_ ?_
  · rfl
  · clear h; intro hb h; conv => whnf
    all_goals (cases h)
    all_goals exact ⟨rfl, rfl⟩
  clear h; intro hb h; conv => whnf
  refine br.h h ?_ ?_ ?_
  · rfl
  · clear h; intro hb h; conv => whnf
    all_goals (cases h)
    all_goals exact ⟨rfl, rfl⟩
  clear h; intro hb h; conv => whnf
  replace h := oreq.elim h; have hb := h.1; replace h := h.2
  first | (refine req.intro hb ?_; conv => whnf) | skip
  replace h := oreq.elim h; have hb := h.1; replace h := h.2
  first | (refine req.intro hb ?_; conv => whnf) | skip
  let t : List UInt8 := (b.2.s.drop n.toNat).take (b.2.s.length - n.toNat)
  all_goals (cases h)
  all_goals exact ⟨rfl, rfl⟩
theorem ok70 (octet_Reader_Bad : octet_Reader → Option (Bool × octet_Reader)) (hS : SumsOK Try.prog (aget (sums70 octet_Reader_Bad))) : SumOK Try.prog 70 (s70 (octet_Reader_TextF octet_Reader_Bad)) := by
  refine SumOK.of_leads tab_ok (fun ar r ha hr => ?_) ⟨Try.f70, rfl, by decide, rfl⟩
  simp only [s70] at ha hr
  unfold r70 at hr
  split at hr <;> try (cases hr; done)
  split at hr <;> cases hr
  rename_i x h
  refine ⟨_, rfl, (leads70 octet_Reader_Bad hS _ _ x h).mono fun v H t hp => ?_⟩
  obtain ⟨rfl, h0⟩ := hp
  exact Res.val rfl ⟨h0, rfl, trivial⟩
def octet_Reader_Text : octet_Reader → Int → Option ((List UInt8) × octet_Reader) := octet_Reader_TextF octet_Reader_Bad
theorem lift70 : SumOK Try.prog 70 (s70 octet_Reader_Text) := ok70 octet_Reader_Bad (SumsOK.of_tab ⟨lift74, trivial⟩)
end Go.Vm.Code

namespace Go.Vm.Code
open Go Go.Vm Go.Proofs
set_option maxRecDepth 100000
set_option maxHeartbeats 4000000
set_option linter.unusedVariables false

/-! (*cloakroom/octet.Reader).Num -/
def octet_Reader_NumF (octet_Get : (List UInt8) → Int → Int → Option (Int × Bool)) (octet_Reader_Text : octet_Reader → Int → Option ((List UInt8) × octet_Reader)) (ra0 : octet_Reader) (k : Int) : Option (Int × octet_Reader) :=
  cond (decide (k < 1))
    (
    (octet_Reader_Text ra0 (-1)).bind fun t =>
    (octet_Get t.1 0 (-1)).bind fun xg =>
    some ((wI .i64 xg.1, t.2)))
    (
    cond (decide (k > 7))
      (
      (octet_Reader_Text ra0 (-1)).bind fun t1 =>
      (octet_Get t1.1 0 (-1)).bind fun xg1 =>
      some ((wI .i64 xg1.1, t1.2)))
      (
      (octet_Reader_Text ra0 k).bind fun t2 =>
      (octet_Get t2.1 0 k).bind fun xg2 =>
      some ((wI .i64 xg2.1, t2.2))))
def post68 (x : Int × octet_Reader) (v : Value) (H : Hp) : Prop := v = .int .i64 x.1 ∧ aget H 0 = some (.cells [.string ⟨⟨x.2.s⟩⟩, .bool x.2.made, .bool x.2.bad])
def r68 (g : octet_Reader → Int → Option (Int × octet_Reader)) : List SArg → Option SRes
  | [.pt [.string ⟨⟨a0_1⟩⟩, .bool a0_2, .bool a0_3], .v (.int .i64 a1_1)] => match g (octet_Reader.mk a0_1 a0_2 a0_3) a1_1 with | some x => some ⟨.int .i64 x.1, [], [[.string ⟨⟨x.2.s⟩⟩, .bool x.2.made, .bool x.2.bad]]⟩ | none => none
  | _ => none
def s68 (g : octet_Reader → Int → Option (Int × octet_Reader)) : Summ := ⟨[.pt 3, .v], r68 g⟩
theorem r68_eq {g : octet_Reader → Int → Option (Int × octet_Reader)} {a0_1 : List UInt8} {a0_2 : Bool} {a0_3 : Bool} {a1_1 : Int} {x : Int × octet_Reader} (hx : g (octet_Reader.mk a0_1 a0_2 a0_3) a1_1 = some x) : (s68 g).run [.pt [.string ⟨⟨a0_1⟩⟩, .bool a0_2, .bool a0_3], .v (.int .i64 a1_1)] = some ⟨.int .i64 x.1, [], [[.string ⟨⟨x.2.s⟩⟩, .bool x.2.made, .bool x.2.bad]]⟩ := by
  show r68 g [.pt [.string ⟨⟨a0_1⟩⟩, .bool a0_2, .bool a0_3], .v (.int .i64 a1_1)] = _
  simp only [r68, hx]
abbrev sums68 (octet_Get : (List UInt8) → Int → Int → Option (Int × Bool)) (octet_Reader_Text : octet_Reader → Int → Option ((List UInt8) × octet_Reader)) : List (Nat × Summ) := [(59, s59 octet_Get), (70, s70 octet_Reader_Text)]
theorem leads68 (octet_Get : (List UInt8) → Int → Int → Option (Int × Bool)) (octet_Reader_Text : octet_Reader → Int → Option ((List UInt8) × octet_Reader)) (hS : SumsOK Try.prog (aget (sums68 octet_Get octet_Reader_Text))) (ra0 : octet_Reader) (k : Int) (res : Int × octet_Reader) (h : octet_Reader_NumF octet_Get octet_Reader_Text ra0 k = some res) :
    Leads Try.prog 68 1 ⟨⟨68, 23, [(0, .pointer (some ⟨0, 0, none⟩)), (1, .int .i64 k)], [.code k68_10], [], false, none⟩, [], [(0, .cells [.string ⟨⟨ra0.s⟩⟩, .bool ra0.made, .bool ra0.bad])], 1⟩ (fun v H _ => post68 res v H) := by
  unfold octet_Reader_NumF at h
  refine ev_ok tab_ok hS true 3000 ?_
  conv => whnf
  refine br.h h ?_ ?_ ?_
  · rfl
  · clear h; intro hb h; conv => whnf
    obtain ⟨t, hy, h2⟩ := obind.elim h; clear h; have h := h2; clear h2
    refine sumK.introF [0] (sumRun_of (aqs := [.pt [.string ⟨⟨ra0.s⟩⟩, .bool ra0.made, .bool ra0.bad], .v (.int .i64 (-1))]) (ra_cons rfl (ra_cons rfl ra_nil)) (r70_eq hy) rfl rfl rfl rfl) ?_
    conv => whnf
    obtain ⟨xg, hy, h2⟩ := obind.elim h; clear h; have h := h2; clear h2
    refine sumK.introF [] (sumRun_of (aqs := [.v (.string ⟨⟨t.1⟩⟩), .v (.int .i64 0), .v (.int .i64 (-1))]) (ra_cons rfl (ra_cons rfl (ra_cons rfl ra_nil))) (r59_eq hy) rfl rfl rfl rfl) ?_
    conv => whnf
    all_goals (cases h)
    all_goals exact ⟨rfl, rfl⟩
  clear h; intro hb h; conv => whnf
  refine br.h h ?_ ?_ ?_
  · rfl
  · clear h; intro hb h; conv => whnf
    obtain ⟨t1, hy, h2⟩ := obind.elim h; clear h; have h := h2; clear h2
    refine sumK.introF [0] (sumRun_of (aqs := [.pt [.string ⟨⟨ra0.s⟩⟩, .bool ra0.made, .bool ra0.bad], .v (.int .i64 (-1))]) (ra_cons rfl (ra_cons rfl ra_nil)) (r70_eq hy) rfl rfl rfl rfl) ?_
    conv => whnf
    obtain ⟨xg1, hy, h2⟩ := obind.elim h; clear h; have h := h2; clear h2
    refine sumK.introF [] (sumRun_of (aqs := [.v (.string ⟨⟨t1.1⟩⟩), .v (.int .i64 0), .v (.int .i64 (-1))]) (ra_cons rfl (ra_cons rfl (ra_cons rfl ra_nil))) (r59_eq hy) rfl rfl rfl rfl) ?_
    conv => whnf
    all_goals (cases h)
    all_goals exact ⟨rfl, rfl⟩
  clear h; intro hb h; conv => whnf
  obtain ⟨t2, hy, h2⟩ := obind.elim h; clear h; have h := h2; clear h2
  refine sumK.introF [0] (sumRun_of (aqs := [.pt [.string ⟨⟨ra0.s⟩⟩, .bool ra0.made, .bool ra0.bad], .v (.int .i64 k)]) (ra_cons rfl (ra_cons rfl ra_nil)) (r70_eq hy) rfl rfl rfl rfl) ?_
  conv => whnf
  obtain ⟨xg2, hy, h2⟩ := obind.elim h; clear h; have h := h2; clear h2
  refine sumK.introF [] (sumRun_of (aqs := [.v (.string ⟨⟨t2.1⟩⟩), .v (.int .i64 0), .v (.int .i64 k)]) (ra_cons rfl (ra_cons rfl (ra_cons rfl ra_nil))) (r59_eq hy) rfl rfl rfl rfl) ?_
  conv => whnf
  all_goals (cases h)
  all_goals exact ⟨rfl, rfl⟩
theorem ok68 (octet_Get : (List UInt8) → Int → Int → Option (Int × Bool)) (octet_Reader_Text : octet_Reader → Int → Option ((List UInt8) × octet_Reader)) (hS : SumsOK Try.prog (aget (sums68 octet_Get octet_Reader_Text))) : SumOK Try.prog 68 (s68 (octet_Reader_NumF octet_Get octet_Reader_Text)) := by
  refine SumOK.of_leads tab_ok (fun ar r ha hr => ?_) ⟨Try.f68, rfl, by decide, rfl⟩
  simp only [s68] at ha hr
  unfold r68 at hr
  split at hr <;> try (cases hr; done)
  split at hr <;> cases hr
  rename_i x h
  refine ⟨_, rfl, (leads68 octet_Get octet_Reader_Text hS _ _ x h).mono fun v H t hp => ?_⟩
  obtain ⟨rfl, h0⟩ := hp
  exact Res.val rfl ⟨h0, rfl, trivial⟩
def octet_Reader_Num : octet_Reader → Int → Option (Int × octet_Reader) := octet_Reader_NumF octet_Get octet_Reader_Text
theorem lift68 : SumOK Try.prog 68 (s68 octet_Reader_Num) := ok68 octet_Get octet_Reader_Text (SumsOK.of_tab ⟨lift59, lift70, trivial⟩)
end Go.Vm.Code

namespace Go.Vm.Code
open Go Go.Vm Go.Proofs
set_option maxRecDepth 100000
set_option maxHeartbeats 4000000
set_option linter.unusedVariables false

/-! cloakroom/octet.New -/
def octet_NewF (s : List UInt8) : Option octet_Reader :=
  some (octet_Reader.mk s true false)
def post67 (x : octet_Reader) (v : Value) (H : Hp) : Prop := ∃ j, 0 ≤ j ∧ (aget H j = some (.row true [.string ⟨⟨x.s⟩⟩, .bool x.made, .bool x.bad]) ∨ aget H j = some (.cells [.string ⟨⟨x.s⟩⟩, .bool x.made, .bool x.bad])) ∧ v = .pointer (some ⟨j, 0, none⟩)
def r67 (g : (List UInt8) → Option octet_Reader) : List SArg → Option SRes
  | [.v (.string ⟨⟨a0_1⟩⟩)] => match g a0_1 with | some x => some ⟨.pointer (some ⟨0, 0, none⟩), [[.string ⟨⟨x.s⟩⟩, .bool x.made, .bool x.bad]], []⟩ | none => none
  | _ => none
def s67 (g : (List UInt8) → Option octet_Reader) : Summ := ⟨[.v], r67 g⟩
theorem r67_eq {g : (List UInt8) → Option octet_Reader} {a0_1 : List UInt8} {x : octet_Reader} (hx : g a0_1 = some x) : (s67 g).run [.v (.string ⟨⟨a0_1⟩⟩)] = some ⟨.pointer (some ⟨0, 0, none⟩), [[.string ⟨⟨x.s⟩⟩, .bool x.made, .bool x.bad]], []⟩ := by
  show r67 g [.v (.string ⟨⟨a0_1⟩⟩)] = _
  simp only [r67, hx]
abbrev sums67 : List (Nat × Summ) := []
theorem leads67 (hS : SumsOK Try.prog (aget (sums67))) (s : List UInt8) (res : octet_Reader) (h : octet_NewF s = some res) :
    Leads Try.prog 67 0 ⟨⟨67, 6, [(0, .string ⟨⟨s⟩⟩)], [.code k67_3], [], false, none⟩, [], [], 0⟩ (fun v H _ => post67 res v H) := by
  unfold octet_NewF at h
  refine ev_ok tab_ok hS true 3000 ?_
  conv => whnf
  all_goals (cases h)
  all_goals exact ⟨0, by omega, .inr rfl, rfl⟩
theorem ok67 (hS : SumsOK Try.prog (aget (sums67))) : SumOK Try.prog 67 (s67 (octet_NewF)) := by
  refine SumOK.of_leads tab_ok (fun ar r ha hr => ?_) ⟨Try.f67, rfl, by decide, rfl⟩
  simp only [s67] at ha hr
  unfold r67 at hr
  split at hr <;> try (cases hr; done)
  split at hr <;> cases hr
  rename_i x h
  refine ⟨_, rfl, (leads67 hS _ x h).mono fun v H t hp => ?_⟩
  obtain ⟨j, hj, hc, hp⟩ := hp
  cases hp
  exact Res.one j rfl hc trivial hj
def octet_New : (List UInt8) → Option octet_Reader := octet_NewF
theorem lift67 : SumOK Try.prog 67 (s67 octet_New) := ok67 (SumsOK.of_tab trivial)
end Go.Vm.Code

/- A reader of bytes, in plain words. -/
namespace Go.Vm.Code
open Go Go.Vm

/-- a reader behind k bytes more -/
def rdr (r : octet_Reader) (k : Int) : octet_Reader := if r.bad = true ∨ k < 0 ∨ k > r.s.length then ⟨r.s, true, true⟩ else ⟨r.s.drop k.toNat, true, false⟩
def rdt (r : octet_Reader) (k : Int) : List UInt8 := if r.bad = true ∨ k < 0 ∨ k > r.s.length then [] else r.s.take k.toNat
theorem rBad_eq {r : octet_Reader} (h : r.made = true) : octet_Reader_Bad r = some (r.bad, r) := by
  unfold octet_Reader_Bad octet_Reader_BadF
  rw [h]; rfl
theorem rText_eq {r : octet_Reader} {k : Int} (h : r.made = true) : octet_Reader_Text r k = some (rdt r k, rdr r k) := by
  unfold octet_Reader_Text octet_Reader_TextF rdt rdr
  rw [rBad_eq h, Option.bind_some]
  simp only []
  obtain ⟨s, m, b⟩ := r
  simp only at h ⊢
  subst h
  cases b with
  | true => simp
  | false =>
    rw [cond_false]
    by_cases h1 : k < 0
    · rw [cond_p h1, if_pos (by omega), if_pos (by omega)]
    rw [cond_n h1]
    by_cases h2 : k > s.length
    · rw [cond_p h2, if_pos (by omega), if_pos (by omega)]
    · have e : (s.drop k.toNat).take (s.length - k.toNat) = s.drop k.toNat := List.take_of_length_le (by simp)
      rw [cond_n h2, oreq_p (by omega), oreq_p (by omega), if_neg (by simp; omega), if_neg (by simp; omega), e]
theorem rdr_made (r : octet_Reader) (k : Int) : (rdr r k).made = true := by unfold rdr; split <;> rfl
theorem rdr_bad {r : octet_Reader} {k : Int} : (rdr r k).bad = false ↔ r.bad = false ∧ 0 ≤ k ∧ k ≤ r.s.length := by
  unfold rdr
  split
  · rename_i h
    simp only [Bool.true_eq_false, false_iff]
    intro ⟨a, b, c⟩
    rcases h with h | h | h
    · rw [a] at h; cases h
    · omega
    · omega
  · rename_i h
    simp only [true_iff]
    cases hb : r.bad
    · exact ⟨rfl, by omega, by omega⟩
    · exact absurd (.inl hb) h
theorem rdr_len {r : octet_Reader} {k : Int} (h : (rdr r k).bad = false) : ((rdr r k).s.length : Int) = r.s.length - k := by
  obtain ⟨a, b, c⟩ := rdr_bad.1 h
  unfold rdr
  rw [if_neg (by rw [a]; simp; omega)]
  simp; omega
theorem rdr_step {r r' : octet_Reader} {k : Int} (h : rdr r k = r') (hb : r'.bad = false) : r.bad = false ∧ (r'.s.length : Int) + k = r.s.length := by
  subst h
  have := rdr_len hb
  exact ⟨(rdr_bad.1 hb).1, by omega⟩
theorem rdr_ok {s : List UInt8} {k : Int} (h0 : 0 ≤ k) (h1 : k ≤ s.length) : rdr ⟨s, true, false⟩ k = ⟨s.drop k.toNat, true, false⟩ := by
  unfold rdr; rw [if_neg (by simp; omega)]
theorem rdt_ok {s : List UInt8} {k : Int} (h0 : 0 ≤ k) (h1 : k ≤ s.length) : rdt ⟨s, true, false⟩ k = s.take k.toNat := by
  unfold rdt; rw [if_neg (by simp; omega)]
theorem rdt_len (r : octet_Reader) (k : Int) : (rdt r k).length ≤ r.s.length := by
  unfold rdt; split
  · simp
  · rw [List.length_take]; omega
/-- a number read -/
def rdn (r : octet_Reader) (k : Int) : Int := (valL (rdt r (if k < 1 ∨ k > 7 then -1 else k)) : Nat)
theorem rNum_eq {r : octet_Reader} {k : Int} (h : r.made = true) (hl : r.s.length < 2 ^ 61) : octet_Reader_Num r k = some (rdn r k, rdr r (if k < 1 ∨ k > 7 then -1 else k)) := by
  unfold octet_Reader_Num octet_Reader_NumF rdn
  have bad : octet_Reader_Text r (-1) = some ([], rdr r (-1)) := by
    rw [rText_eq h]; unfold rdt; rw [if_pos (by omega)]
  have e0 : rdt r (-1) = [] := by unfold rdt; rw [if_pos (by omega)]
  by_cases h1 : k < 1
  · rw [cond_p h1, bad, Option.bind_some, octet_Get_eq (by simp), if_pos (by omega), Option.bind_some, e0]; rfl
  rw [cond_n h1]
  by_cases h2 : k > 7
  · rw [cond_p h2, bad, Option.bind_some, octet_Get_eq (by simp), if_pos (by omega), Option.bind_some, e0]; rfl
  have hlen := rdt_len r k
  rw [cond_n h2, rText_eq h, Option.bind_some, octet_Get_eq (by simp only []; omega), Option.bind_some, if_neg (by omega)]
  simp only []
  unfold getS
  by_cases hc : r.bad = true ∨ k < 0 ∨ k > r.s.length
  · have e : rdt r k = [] := by unfold rdt; rw [if_pos hc]
    rw [e, if_neg (by simp; omega)]; rfl
  · have hl2 : (rdt r k).length = k.toNat := by unfold rdt; rw [if_neg hc]; simp; omega
    rw [if_pos (by omega)]
    have e2 : ((rdt r k).drop (0 : Int).toNat).take k.toNat = rdt r k := by
      rw [show (0 : Int).toNat = 0 from rfl, List.drop_zero, List.take_of_length_le (by omega)]
    have hv : valL (rdt r k) < 2 ^ 56 := by
      have := val_lt (rdt r k)
      rw [hl2] at this
      exact pow_step this (by omega)
    simp only [e2]
    rw [wI64 (by omega) (by omega)]
theorem getS_at {s : List UInt8} {p k : Int} (h0 : 0 ≤ p) (h1 : 1 ≤ k) (h8 : k ≤ 8) (h : p + k ≤ s.length) : getS s p k = (((valL ((s.drop p.toNat).take k.toNat) : Nat) : Int), true) := by
  unfold getS; rw [if_pos (by omega)]
theorem rNew_eq (s : List UInt8) : octet_New s = some ⟨s, true, false⟩ := rfl
end Go.Vm.Code

namespace Go.Vm.Code
open Go Go.Vm Go.Proofs
set_option maxRecDepth 100000
set_option maxHeartbeats 4000000
set_option linter.unusedVariables false

/-! cloakroom/cloakroomref07.Small -/
def R07_Small_s1 (l : List (List UInt8)) (most : Int) (i : Int) : Option (Sum Int Bool) :=
  cond (decide (i < (l.length : Int)))
    (
    oreq (decide ((0 : Int) ≤ i ∧ i < (l.length : Int))) <|
    (l[i.toNat]?).bind fun (e : List UInt8) =>
    cond (decide ((e.length : Int) > most))
      (
      some (.inr (false)))
      (
      some (.inl (wI .i64 (i + 1)))))
    (
    some (.inr (true)))
def R07_SmallF (l : List (List UInt8)) (most : Int) : Option Bool :=
  iter (fun st => R07_Small_s1 l most st) FUEL 0
def post15 (x : Bool) (v : Value) (H : Hp) : Prop := v = .bool x
def r15 (g : (List (List UInt8)) → Int → Option Bool) : List SArg → Option SRes
  | [.sl n0 cs0, .v (.int .i64 a1_1)] => match unL asS cs0 with | some y0 => (match g y0 a1_1 with | some x => some ⟨.bool x, [], []⟩ | none => none) | none => none
  | _ => none
def s15 (g : (List (List UInt8)) → Int → Option Bool) : Summ := ⟨[.sl 1, .v], r15 g⟩
theorem r15_eq {g : (List (List UInt8)) → Int → Option Bool} {y0 : List (List UInt8)} {a1_1 : Int} {x : Bool} (hx : g y0 a1_1 = some x) : (s15 g).run [.sl y0.length (vS y0), .v (.int .i64 a1_1)] = some ⟨.bool x, [], []⟩ := by
  show r15 g [.sl y0.length (vS y0), .v (.int .i64 a1_1)] = _
  simp only [r15, unS_vS, hx]
abbrev sums15 : List (Nat × Summ) := []
def head15_1 (l : List (List UInt8)) (most : Int) (i : Int) : VM :=
  ⟨⟨15, 19, [(0, .slice (some ⟨0, 0, none⟩) l.length 1), (1, .int .i64 most), (5, .int .i64 i)], [.code k15_13, .inLoop k15_13, .inBlock 0, .code k15_18], [], false, none⟩, [], [(0, .row false (vS l))], 1⟩
theorem loop15_1 (hS : SumsOK Try.prog (aget (sums15))) (l : List (List UInt8)) (most : Int) (res : Bool) : ∀ fuel (st : Int) (o : Bool), iter (fun st => R07_Small_s1 l most st) fuel st = some o → (o = res) →
    Leads Try.prog 15 1 (head15_1 l most st) (fun v H _ => post15 res v H) := by
  intro fuel st o h hc
  refine iter_leads (head := fun st => head15_1 l most st) (C := fun o => (o = res)) ?_ fuel st o h hc
  clear h hc o st fuel
  intro i o h hc
  replace h : R07_Small_s1 l most i = some o := h
  show Leads Try.prog 15 1 (head15_1 l most i) (fun v H _ => post15 res v H)
  unfold R07_Small_s1 at h
  refine ev_ok tab_ok hS true 3000 ?_
  conv => whnf
  refine br.h2 h ?_ ?_ ?_
  · rfl
  · clear h; intro hb h; conv => whnf
    all_goals (cases h; cases hc)
    all_goals exact rfl
  clear h; intro hb h; conv => whnf
  replace h := oreq.elim h; have hb := h.1; replace h := h.2
  first | (refine req.intro hb ?_; conv => whnf) | skip
  obtain ⟨e, hy, h2⟩ := obind.elim h; clear h; have h := h2; clear h2
  refine rd.S hy (by first | rfl | (rw [Nat.zero_add, Nat.mul_one]; done) | omega) ?_
  conv => whnf
  refine br.h h ?_ ?_ ?_
  · rfl
  · clear h; intro hb h; conv => whnf
    all_goals (cases h; cases hc)
    all_goals exact rfl
  clear h; intro hb h; conv => whnf
  cases h; simp only [Sum.elim_inl, Sum.elim_inr, head15_1] at hc
  refine Leads.re hc [(0, 0)] rfl ?_ ?_ <;> (repeat' first | exact trivial | refine ⟨⟨_, rfl, rfl⟩, ?_⟩ | refine ⟨⟨_, _, rfl, rfl, .rowF (vI_flat _ _) id⟩, ?_⟩ | refine ⟨⟨_, _, rfl, rfl, .rowF (vS_flat _) id⟩, ?_⟩ | refine ⟨⟨_, _, rfl, rfl, .rowF (vB_flat _) id⟩, ?_⟩ | refine ⟨⟨_, _, rfl, rfl, .cells rfl⟩, ?_⟩ | refine ⟨⟨_, _, rfl, rfl, .row rfl id⟩, ?_⟩ | refine ⟨⟨_, _, rfl, rfl, .cr rfl⟩, ?_⟩ | refine ⟨⟨_, _, rfl, rfl, .rc rfl⟩, ?_⟩ | refine ⟨⟨_, _, rfl, rfl, .marks⟩, ?_⟩ | refine ⟨⟨_, _, rfl, rfl, .siter _ _⟩, ?_⟩ | refine ⟨⟨_, _, rfl, rfl, .loop rfl rfl rfl rfl (by repeat' first | exact trivial | refine ⟨rfl, ?_⟩) rfl rfl rfl rfl⟩, ?_⟩)
theorem leads15 (hS : SumsOK Try.prog (aget (sums15))) (l : List (List UInt8)) (most : Int) (res : Bool) (h : R07_SmallF l most = some res) :
    Leads Try.prog 15 1 ⟨⟨15, 19, [(0, .slice (some ⟨0, 0, none⟩) l.length 1), (1, .int .i64 most)], [.code k15_20], [], false, none⟩, [], [(0, .row false (vS l))], 1⟩ (fun v H _ => post15 res v H) := by
  unfold R07_SmallF at h
  refine ev_ok tab_ok hS true 3000 ?_
  conv => whnf
  have hl := loop15_1 hS _ _ res _ _ _ h rfl; simp only [head15_1] at hl
  refine Leads.re hl [(0, 0)] rfl ?_ ?_ <;> (repeat' first | exact trivial | refine ⟨⟨_, rfl, rfl⟩, ?_⟩ | refine ⟨⟨_, _, rfl, rfl, .rowF (vI_flat _ _) id⟩, ?_⟩ | refine ⟨⟨_, _, rfl, rfl, .rowF (vS_flat _) id⟩, ?_⟩ | refine ⟨⟨_, _, rfl, rfl, .rowF (vB_flat _) id⟩, ?_⟩ | refine ⟨⟨_, _, rfl, rfl, .cells rfl⟩, ?_⟩ | refine ⟨⟨_, _, rfl, rfl, .row rfl id⟩, ?_⟩ | refine ⟨⟨_, _, rfl, rfl, .cr rfl⟩, ?_⟩ | refine ⟨⟨_, _, rfl, rfl, .rc rfl⟩, ?_⟩ | refine ⟨⟨_, _, rfl, rfl, .marks⟩, ?_⟩ | refine ⟨⟨_, _, rfl, rfl, .siter _ _⟩, ?_⟩ | refine ⟨⟨_, _, rfl, rfl, .loop rfl rfl rfl rfl (by repeat' first | exact trivial | refine ⟨rfl, ?_⟩) rfl rfl rfl rfl⟩, ?_⟩)
theorem ok15 (hS : SumsOK Try.prog (aget (sums15))) : SumOK Try.prog 15 (s15 (R07_SmallF)) := by
  refine SumOK.of_leads tab_ok (fun ar r ha hr => ?_) ⟨Try.f15, rfl, by decide, rfl⟩
  simp only [s15] at ha hr
  unfold r15 at hr
  split at hr <;> try (cases hr; done)
  split at hr <;> try (cases hr; done)
  rename_i y0 ey0
  have ey0 := unS_eq ey0
  split at hr <;> cases hr
  rename_i x h
  subst ey0
  simp only [argsOK, vI_len, vB_len, vS_len, Nat.mul_one] at ha
  obtain ⟨hn0, -, -, -⟩ := ha
  subst hn0
  refine ⟨_, rfl, (leads15 hS _ _ x h).mono fun v H t hp => ?_⟩
  cases hp
  exact Res.val rfl trivial
def R07_Small : (List (List UInt8)) → Int → Option Bool := R07_SmallF
theorem lift15 : SumOK Try.prog 15 (s15 R07_Small) := ok15 (SumsOK.of_tab trivial)
end Go.Vm.Code

/- One byte, and small lists. -/
namespace Go.Vm.Code
open Go Go.Vm
theorem rdr_len_le (r : octet_Reader) (k : Int) : (rdr r k).s.length ≤ r.s.length := by unfold rdr; split <;> simp
/-- one byte's number -/
def b1 (s : List UInt8) (i : Nat) : Nat := valL ((s.drop i).take 1)
theorem b1_get {s : List UInt8} {i : Nat} (h : i < s.length) : b1 s i = s[i].toNat := by
  unfold b1
  rw [List.drop_eq_getElem_cons h]
  show valL [s[i]] = _
  rw [val_cons]; simp
theorem b1_lt (s : List UInt8) (i : Nat) : b1 s i < 256 := val_take_lt _ (by decide)
theorem small_eq {l : List (List UInt8)} {m : Int} (h : l.length < 2 ^ 20) : R07_Small l m = some (l.all fun x => decide ((x.length : Int) ≤ m)) := by
  unfold R07_Small R07_SmallF
  have key := iter_eq (step := fun st => R07_Small_s1 l m st) (fun st => (l.drop st.toNat).all fun x => decide ((x.length : Int) ≤ m)) (fun st => 0 ≤ st ∧ st ≤ l.length) (fun st => ((l.length : Int) - st).toNat) ?_ FUEL 0 ⟨by omega, by omega⟩ (by rw [FUEL_eq]; omega)
  · rw [key]; simp
  intro st ⟨g1, g2⟩
  obtain ⟨i, rfl⟩ := Int.eq_ofNat_of_zero_le g1
  unfold R07_Small_s1
  simp only [Int.toNat_natCast]
  by_cases hp : i < l.length
  · have ed : l.drop i = l[i] :: l.drop (i + 1) := List.drop_eq_getElem_cons hp
    rw [cond_p (by omega), oreq_p (by omega)]
    have e1 : l[i]? = some l[i] := by simp [hp]
    rw [e1, Option.bind_some]
    by_cases hb : (l[i].length : Int) > m
    · refine .inl ?_
      rw [cond_p hb, ed, List.all_cons, decide_eq_false (by omega), Bool.false_and]
    · refine .inr ⟨((i + 1 : Nat) : Int), ?_, ⟨by omega, by omega⟩, by omega, ?_⟩
      · rw [cond_n hb, wI64 (by omega) (by omega)]; rfl
      · rw [Int.toNat_natCast, ed, List.all_cons, decide_eq_true (by omega), Bool.true_and]
  · refine .inl ?_
    rw [cond_n (by omega), List.drop_of_length_le (by omega)]; rfl
end Go.Vm.Code

namespace Go.Vm.Code
open Go Go.Vm Go.Proofs
set_option maxRecDepth 100000
set_option maxHeartbeats 4000000
set_option linter.unusedVariables false

/-! (cloakroom/quic.Head).may -/
def quic_Head_mayF (ha0 : quic_Head) : Option Bool :=
  cond (decide (ha0.Bits < 0))
    (
    some (false))
    (
    cond (decide (ha0.Bits ≥ 64))
      (
      some (false))
      (
      cond (ha0.Long)
        (
        let t := if (ha0.SCID.length : Int) > (ha0.DCID.length : Int) then (ha0.SCID.length : Int) else (ha0.DCID.length : Int)
        some (decide (t ≤ 20)))
        (
        cond ((ha0.DCID.length : Int) == 8)
          (
          cond (ha0.SCID == [])
            (
            some (ha0.Version == 0))
            (
            some (false)))
          (
          some (false)))))
def post75 (x : Bool) (v : Value) (H : Hp) : Prop := v = .bool x
def r75 (g : quic_Head → Option Bool) : List SArg → Option SRes
  | [.v (.agg ⟨[.bool a0_1, .int .i64 a0_2, .int .u32 a0_3, .string ⟨⟨a0_4⟩⟩, .string ⟨⟨a0_5⟩⟩, .string ⟨⟨a0_6⟩⟩]⟩)] => match g (quic_Head.mk a0_1 a0_2 a0_3 a0_4 a0_5 a0_6) with | some x => some ⟨.bool x, [], []⟩ | none => none
  | _ => none
def s75 (g : quic_Head → Option Bool) : Summ := ⟨[.v], r75 g⟩
theorem r75_eq {g : quic_Head → Option Bool} {a0_1 : Bool} {a0_2 : Int} {a0_3 : Int} {a0_4 : List UInt8} {a0_5 : List UInt8} {a0_6 : List UInt8} {x : Bool} (hx : g (quic_Head.mk a0_1 a0_2 a0_3 a0_4 a0_5 a0_6) = some x) : (s75 g).run [.v (.agg ⟨[.bool a0_1, .int .i64 a0_2, .int .u32 a0_3, .string ⟨⟨a0_4⟩⟩, .string ⟨⟨a0_5⟩⟩, .string ⟨⟨a0_6⟩⟩]⟩)] = some ⟨.bool x, [], []⟩ := by
  show r75 g [.v (.agg ⟨[.bool a0_1, .int .i64 a0_2, .int .u32 a0_3, .string ⟨⟨a0_4⟩⟩, .string ⟨⟨a0_5⟩⟩, .string ⟨⟨a0_6⟩⟩]⟩)] = _
  simp only [r75, hx]
abbrev sums75 : List (Nat × Summ) := []
theorem leads75 (hS : SumsOK Try.prog (aget (sums75))) (ha0 : quic_Head) (res : Bool) (h : quic_Head_mayF ha0 = some res) :
    Leads Try.prog 75 0 ⟨⟨75, 35, [(0, .agg ⟨[.bool ha0.Long, .int .i64 ha0.Bits, .int .u32 ha0.Version, .string ⟨⟨ha0.DCID⟩⟩, .string ⟨⟨ha0.SCID⟩⟩, .string ⟨⟨ha0.Rest⟩⟩]⟩)], [.code k75_15], [], false, none⟩, [], [], 0⟩ (fun v H _ => post75 res v H) := by
  unfold quic_Head_mayF at h
  refine ev_ok tab_ok hS true 3000 ?_
  conv => whnf
  refine br.h h ?_ ?_ ?_
  · rfl
  · clear h; intro hb h; conv => whnf
    all_goals (cases h)
    all_goals exact rfl
  clear h; intro hb h; conv => whnf
  refine br.h h ?_ ?_ ?_
  · rfl
  · clear h; intro hb h; conv => whnf
    all_goals (cases h)
    all_goals exact rfl
  clear h; intro hb h; conv => whnf
  refine br.h h ?_ ?_ ?_
  · rfl
  · clear h; intro hb h; conv => whnf
    let t : Int := if (ha0.SCID.length : Int) > (ha0.DCID.length : Int) then (ha0.SCID.length : Int) else (ha0.DCID.length : Int)
    all_goals (cases h)
    all_goals exact rfl
  clear h; intro hb h; conv => whnf
  refine br.h2 h ?_ ?_ ?_
  · rfl
  · clear h; intro hb h; conv => whnf
    all_goals (cases h)
    all_goals exact rfl
  clear h; intro hb h; conv => whnf
  refine br.h h ?_ ?_ ?_
  · rfl
  · clear h; intro hb h; conv => whnf
    all_goals (cases h)
    all_goals exact rfl
  clear h; intro hb h; conv => whnf
  all_goals (cases h)
  all_goals exact rfl
theorem ok75 (hS : SumsOK Try.prog (aget (sums75))) : SumOK Try.prog 75 (s75 (quic_Head_mayF)) := by
  refine SumOK.of_leads tab_ok (fun ar r ha hr => ?_) ⟨Try.f75, rfl, by decide, rfl⟩
  simp only [s75] at ha hr
  unfold r75 at hr
  split at hr <;> try (cases hr; done)
  split at hr <;> cases hr
  rename_i x h
  refine ⟨_, rfl, (leads75 hS _ x h).mono fun v H t hp => ?_⟩
  cases hp
  exact Res.val rfl trivial
def quic_Head_may : quic_Head → Option Bool := quic_Head_mayF
theorem lift75 : SumOK Try.prog 75 (s75 quic_Head_may) := ok75 (SumsOK.of_tab trivial)
end Go.Vm.Code

namespace Go.Vm.Code
open Go Go.Vm Go.Proofs
set_option maxRecDepth 100000
set_option maxHeartbeats 4000000
set_option linter.unusedVariables false

/-! cloakroom/quic.counted -/
def quic_countedF (octet_Put : Int → Int → Option (List UInt8)) (id : List UInt8) : Option (List UInt8) :=
  (octet_Put (wI .u64 (id.length : Int)) 1).bind fun p =>
  oreq (decide (p.length + id.length < 2 ^ 63)) <|
  some (p ++ id)
def post76 (x : List UInt8) (v : Value) (H : Hp) : Prop := v = .string ⟨⟨x⟩⟩
def r76 (g : (List UInt8) → Option (List UInt8)) : List SArg → Option SRes
  | [.v (.string ⟨⟨a0_1⟩⟩)] => match g a0_1 with | some x => some ⟨.string ⟨⟨x⟩⟩, [], []⟩ | none => none
  | _ => none
def s76 (g : (List UInt8) → Option (List UInt8)) : Summ := ⟨[.v], r76 g⟩
theorem r76_eq {g : (List UInt8) → Option (List UInt8)} {a0_1 : List UInt8} {x : List UInt8} (hx : g a0_1 = some x) : (s76 g).run [.v (.string ⟨⟨a0_1⟩⟩)] = some ⟨.string ⟨⟨x⟩⟩, [], []⟩ := by
  show r76 g [.v (.string ⟨⟨a0_1⟩⟩)] = _
  simp only [r76, hx]
abbrev sums76 (octet_Put : Int → Int → Option (List UInt8)) : List (Nat × Summ) := [(63, s63 octet_Put)]
theorem leads76 (octet_Put : Int → Int → Option (List UInt8)) (hS : SumsOK Try.prog (aget (sums76 octet_Put))) (id : List UInt8) (res : List UInt8) (h : quic_countedF octet_Put id = some res) :
    Leads Try.prog 76 0 ⟨⟨76, 9, [(0, .string ⟨⟨id⟩⟩)], [.code k76_3], [], false, none⟩, [], [], 0⟩ (fun v H _ => post76 res v H) := by
  unfold quic_countedF at h
  refine ev_ok tab_ok hS true 3000 ?_
  conv => whnf
  obtain ⟨p, hy, h2⟩ := obind.elim h; clear h; have h := h2; clear h2
  refine sumK.introF [] (sumRun_of (aqs := [.v (.int .u64 (wI .u64 (id.length : Int))), .v (.int .i64 1)]) (ra_cons rfl (ra_cons rfl ra_nil)) (r63_eq hy) rfl rfl rfl rfl) ?_
  conv => whnf
  replace h := oreq.elim h; have hb := h.1; replace h := h.2
  first | (refine req.intro hb ?_; conv => whnf) | skip
  all_goals (cases h)
  all_goals exact rfl
theorem ok76 (octet_Put : Int → Int → Option (List UInt8)) (hS : SumsOK Try.prog (aget (sums76 octet_Put))) : SumOK Try.prog 76 (s76 (quic_countedF octet_Put)) := by
  refine SumOK.of_leads tab_ok (fun ar r ha hr => ?_) ⟨Try.f76, rfl, by decide, rfl⟩
  simp only [s76] at ha hr
  unfold r76 at hr
  split at hr <;> try (cases hr; done)
  split at hr <;> cases hr
  rename_i x h
  refine ⟨_, rfl, (leads76 octet_Put hS _ x h).mono fun v H t hp => ?_⟩
  cases hp
  exact Res.val rfl trivial
def quic_counted : (List UInt8) → Option (List UInt8) := quic_countedF octet_Put
theorem lift76 : SumOK Try.prog 76 (s76 quic_counted) := ok76 octet_Put (SumsOK.of_tab ⟨lift63, trivial⟩)
end Go.Vm.Code

namespace Go.Vm.Code
open Go Go.Vm Go.Proofs
set_option maxRecDepth 100000
set_option maxHeartbeats 4000000
set_option linter.unusedVariables false

/-! cloakroom/quic.Put -/
def quic_PutF (octet_Put : Int → Int → Option (List UInt8)) (quic_Head_may : quic_Head → Option Bool) (quic_counted : (List UInt8) → Option (List UInt8)) (ha0 : quic_Head) : Option ((List UInt8) × Int) :=
  (quic_Head_may ha0).bind fun m =>
  cond (!m)
    (
    some (([], 1)))
    (
    cond (ha0.Long)
      (
      (octet_Put (wI .u64 (iorI .i64 192 ha0.Bits)) 1).bind fun p =>
      (octet_Put (wI .u64 ha0.Version) 4).bind fun p1 =>
      oreq (decide (p.length + p1.length < 2 ^ 63)) <|
      (quic_counted ha0.DCID).bind fun c =>
      oreq (decide ((p ++ p1).length + c.length < 2 ^ 63)) <|
      (quic_counted ha0.SCID).bind fun c1 =>
      oreq (decide (((p ++ p1) ++ c).length + c1.length < 2 ^ 63)) <|
      oreq (decide ((((p ++ p1) ++ c) ++ c1).length + ha0.Rest.length < 2 ^ 63)) <|
      some (((((p ++ p1) ++ c) ++ c1) ++ ha0.Rest, 0)))
      (
      (octet_Put (wI .u64 (iorI .i64 64 ha0.Bits)) 1).bind fun p2 =>
      oreq (decide (p2.length + ha0.DCID.length < 2 ^ 63)) <|
      oreq (decide ((p2 ++ ha0.DCID).length + ha0.Rest.length < 2 ^ 63)) <|
      some (((p2 ++ ha0.DCID) ++ ha0.Rest, 0))))
def post17 (x : (List UInt8) × Int) (v : Value) (H : Hp) : Prop := v = .tuple ⟨[.string ⟨⟨x.1⟩⟩, .int .i64 x.2]⟩
def r17 (g : quic_Head → Option ((List UInt8) × Int)) : List SArg → Option SRes
  | [.v (.agg ⟨[.bool a0_1, .int .i64 a0_2, .int .u32 a0_3, .string ⟨⟨a0_4⟩⟩, .string ⟨⟨a0_5⟩⟩, .string ⟨⟨a0_6⟩⟩]⟩)] => match g (quic_Head.mk a0_1 a0_2 a0_3 a0_4 a0_5 a0_6) with | some x => some ⟨.tuple ⟨[.string ⟨⟨x.1⟩⟩, .int .i64 x.2]⟩, [], []⟩ | none => none
  | _ => none
def s17 (g : quic_Head → Option ((List UInt8) × Int)) : Summ := ⟨[.v], r17 g⟩
theorem r17_eq {g : quic_Head → Option ((List UInt8) × Int)} {a0_1 : Bool} {a0_2 : Int} {a0_3 : Int} {a0_4 : List UInt8} {a0_5 : List UInt8} {a0_6 : List UInt8} {x : (List UInt8) × Int} (hx : g (quic_Head.mk a0_1 a0_2 a0_3 a0_4 a0_5 a0_6) = some x) : (s17 g).run [.v (.agg ⟨[.bool a0_1, .int .i64 a0_2, .int .u32 a0_3, .string ⟨⟨a0_4⟩⟩, .string ⟨⟨a0_5⟩⟩, .string ⟨⟨a0_6⟩⟩]⟩)] = some ⟨.tuple ⟨[.string ⟨⟨x.1⟩⟩, .int .i64 x.2]⟩, [], []⟩ := by
  show r17 g [.v (.agg ⟨[.bool a0_1, .int .i64 a0_2, .int .u32 a0_3, .string ⟨⟨a0_4⟩⟩, .string ⟨⟨a0_5⟩⟩, .string ⟨⟨a0_6⟩⟩]⟩)] = _
  simp only [r17, hx]
abbrev sums17 (octet_Put : Int → Int → Option (List UInt8)) (quic_Head_may : quic_Head → Option Bool) (quic_counted : (List UInt8) → Option (List UInt8)) : List (Nat × Summ) := [(63, s63 octet_Put), (75, s75 quic_Head_may), (76, s76 quic_counted)]
theorem leads17 (octet_Put : Int → Int → Option (List UInt8)) (quic_Head_may : quic_Head → Option Bool) (quic_counted : (List UInt8) → Option (List UInt8)) (hS : SumsOK Try.prog (aget (sums17 octet_Put quic_Head_may quic_counted))) (ha0 : quic_Head) (res : (List UInt8) × Int) (h : quic_PutF octet_Put quic_Head_may quic_counted ha0 = some res) :
    Leads Try.prog 17 0 ⟨⟨17, 43, [(0, .agg ⟨[.bool ha0.Long, .int .i64 ha0.Bits, .int .u32 ha0.Version, .string ⟨⟨ha0.DCID⟩⟩, .string ⟨⟨ha0.SCID⟩⟩, .string ⟨⟨ha0.Rest⟩⟩]⟩)], [.code k17_15], [], false, none⟩, [], [], 0⟩ (fun v H _ => post17 res v H) := by
  unfold quic_PutF at h
  refine ev_ok tab_ok hS true 3000 ?_
  conv => whnf
  obtain ⟨m, hy, h2⟩ := obind.elim h; clear h; have h := h2; clear h2
  refine sumK.introF [] (sumRun_of (aqs := [.v (.agg ⟨[.bool ha0.Long, .int .i64 ha0.Bits, .int .u32 ha0.Version, .string ⟨⟨ha0.DCID⟩⟩, .string ⟨⟨ha0.SCID⟩⟩, .string ⟨⟨ha0.Rest⟩⟩]⟩)]) (ra_cons rfl ra_nil) (r75_eq hy) rfl rfl rfl rfl) ?_
  conv => whnf
  refine br.h h ?_ ?_ ?_
  · rfl
  · clear h; intro hb h; conv => whnf
    all_goals (cases h)
    all_goals exact rfl
  clear h; intro hb h; conv => whnf
  refine br.h2 h ?_ ?_ ?_
  · rfl
  · clear h; intro hb h; conv => whnf
    obtain ⟨p2, hy, h2⟩ := obind.elim h; clear h; have h := h2; clear h2
    refine sumK.introF [] (sumRun_of (aqs := [.v (.int .u64 (wI .u64 (iorI .i64 64 ha0.Bits))), .v (.int .i64 1)]) (ra_cons rfl (ra_cons rfl ra_nil)) (r63_eq hy) rfl rfl rfl rfl) ?_
    conv => whnf
    replace h := oreq.elim h; have hb := h.1; replace h := h.2
    first | (refine req.intro hb ?_; conv => whnf) | skip
    replace h := oreq.elim h; have hb := h.1; replace h := h.2
    first | (refine req.intro hb ?_; conv => whnf) | skip
    all_goals (cases h)
    all_goals exact rfl
  clear h; intro hb h; conv => whnf
  obtain ⟨p, hy, h2⟩ := obind.elim h; clear h; have h := h2; clear h2
  refine sumK.introF [] (sumRun_of (aqs := [.v (.int .u64 (wI .u64 (iorI .i64 192 ha0.Bits))), .v (.int .i64 1)]) (ra_cons rfl (ra_cons rfl ra_nil)) (r63_eq hy) rfl rfl rfl rfl) ?_
  conv => whnf
  obtain ⟨p1, hy, h2⟩ := obind.elim h; clear h; have h := h2; clear h2
  refine sumK.introF [] (sumRun_of (aqs := [.v (.int .u64 (wI .u64 ha0.Version)), .v (.int .i64 4)]) (ra_cons rfl (ra_cons rfl ra_nil)) (r63_eq hy) rfl rfl rfl rfl) ?_
  conv => whnf
  replace h := oreq.elim h; have hb := h.1; replace h := h.2
  first | (refine req.intro hb ?_; conv => whnf) | skip
  obtain ⟨c, hy, h2⟩ := obind.elim h; clear h; have h := h2; clear h2
  refine sumK.introF [] (sumRun_of (aqs := [.v (.string ⟨⟨ha0.DCID⟩⟩)]) (ra_cons rfl ra_nil) (r76_eq hy) rfl rfl rfl rfl) ?_
  conv => whnf
  replace h := oreq.elim h; have hb := h.1; replace h := h.2
  first | (refine req.intro hb ?_; conv => whnf) | skip
  obtain ⟨c1, hy, h2⟩ := obind.elim h; clear h; have h := h2; clear h2
  refine sumK.introF [] (sumRun_of (aqs := [.v (.string ⟨⟨ha0.SCID⟩⟩)]) (ra_cons rfl ra_nil) (r76_eq hy) rfl rfl rfl rfl) ?_
  conv => whnf
  replace h := oreq.elim h; have hb := h.1; replace h := h.2
  first | (refine req.intro hb ?_; conv => whnf) | skip
  replace h := oreq.elim h; have hb := h.1; replace h := h.2
  first | (refine req.intro hb ?_; conv => whnf) | skip
  all_goals (cases h)
  all_goals exact rfl
theorem ok17 (octet_Put : Int → Int → Option (List UInt8)) (quic_Head_may : quic_Head → Option Bool) (quic_counted : (List UInt8) → Option (List UInt8)) (hS : SumsOK Try.prog (aget (sums17 octet_Put quic_Head_may quic_counted))) : SumOK Try.prog 17 (s17 (quic_PutF octet_Put quic_Head_may quic_counted)) := by
  refine SumOK.of_leads tab_ok (fun ar r ha hr => ?_) ⟨Try.f17, rfl, by decide, rfl⟩
  simp only [s17] at ha hr
  unfold r17 at hr
  split at hr <;> try (cases hr; done)
  split at hr <;> cases hr
  rename_i x h
  refine ⟨_, rfl, (leads17 octet_Put quic_Head_may quic_counted hS _ x h).mono fun v H t hp => ?_⟩
  cases hp
  exact Res.val rfl trivial
def quic_Put : quic_Head → Option ((List UInt8) × Int) := quic_PutF octet_Put quic_Head_may quic_counted
theorem lift17 : SumOK Try.prog 17 (s17 quic_Put) := ok17 octet_Put quic_Head_may quic_counted (SumsOK.of_tab ⟨lift63, lift75, lift76, trivial⟩)
end Go.Vm.Code

namespace Go.Vm.Code
open Go Go.Vm Go.Proofs
set_option maxRecDepth 100000
set_option maxHeartbeats 4000000
set_option linter.unusedVariables false

/-! (*cloakroom/octet.Reader).Rest -/
def octet_Reader_RestF (octet_Reader_Bad : octet_Reader → Option (Bool × octet_Reader)) (octet_Reader_Text : octet_Reader → Int → Option ((List UInt8) × octet_Reader)) (ra0 : octet_Reader) : Option ((List UInt8) × octet_Reader) :=
  (octet_Reader_Bad ra0).bind fun b =>
  cond (b.1)
    (
    some (([], b.2)))
    (
    (octet_Reader_Text b.2 (b.2.s.length : Int)).bind fun t =>
    some ((t.1, t.2)))
def post72 (x : (List UInt8) × octet_Reader) (v : Value) (H : Hp) : Prop := v = .string ⟨⟨x.1⟩⟩ ∧ aget H 0 = some (.cells [.string ⟨⟨x.2.s⟩⟩, .bool x.2.made, .bool x.2.bad])
def r72 (g : octet_Reader → Option ((List UInt8) × octet_Reader)) : List SArg → Option SRes
  | [.pt [.string ⟨⟨a0_1⟩⟩, .bool a0_2, .bool a0_3]] => match g (octet_Reader.mk a0_1 a0_2 a0_3) with | some x => some ⟨.string ⟨⟨x.1⟩⟩, [], [[.string ⟨⟨x.2.s⟩⟩, .bool x.2.made, .bool x.2.bad]]⟩ | none => none
  | _ => none
def s72 (g : octet_Reader → Option ((List UInt8) × octet_Reader)) : Summ := ⟨[.pt 3], r72 g⟩
theorem r72_eq {g : octet_Reader → Option ((List UInt8) × octet_Reader)} {a0_1 : List UInt8} {a0_2 : Bool} {a0_3 : Bool} {x : (List UInt8) × octet_Reader} (hx : g (octet_Reader.mk a0_1 a0_2 a0_3) = some x) : (s72 g).run [.pt [.string ⟨⟨a0_1⟩⟩, .bool a0_2, .bool a0_3]] = some ⟨.string ⟨⟨x.1⟩⟩, [], [[.string ⟨⟨x.2.s⟩⟩, .bool x.2.made, .bool x.2.bad]]⟩ := by
  show r72 g [.pt [.string ⟨⟨a0_1⟩⟩, .bool a0_2, .bool a0_3]] = _
  simp only [r72, hx]
abbrev sums72 (octet_Reader_Bad : octet_Reader → Option (Bool × octet_Reader)) (octet_Reader_Text : octet_Reader → Int → Option ((List UInt8) × octet_Reader)) : List (Nat × Summ) := [(74, s74 octet_Reader_Bad), (70, s70 octet_Reader_Text)]
theorem leads72 (octet_Reader_Bad : octet_Reader → Option (Bool × octet_Reader)) (octet_Reader_Text : octet_Reader → Int → Option ((List UInt8) × octet_Reader)) (hS : SumsOK Try.prog (aget (sums72 octet_Reader_Bad octet_Reader_Text))) (ra0 : octet_Reader) (res : (List UInt8) × octet_Reader) (h : octet_Reader_RestF octet_Reader_Bad octet_Reader_Text ra0 = some res) :
    Leads Try.prog 72 1 ⟨⟨72, 12, [(0, .pointer (some ⟨0, 0, none⟩))], [.code k72_9], [], false, none⟩, [], [(0, .cells [.string ⟨⟨ra0.s⟩⟩, .bool ra0.made, .bool ra0.bad])], 1⟩ (fun v H _ => post72 res v H) := by
  unfold octet_Reader_RestF at h
  refine ev_ok tab_ok hS true 3000 ?_
  conv => whnf
  obtain ⟨b, hy, h2⟩ := obind.elim h; clear h; have h := h2; clear h2
  refine sumK.introF [0] (sumRun_of (aqs := [.pt [.string ⟨⟨ra0.s⟩⟩, .bool ra0.made, .bool ra0.bad]]) (ra_cons rfl ra_nil) (r74_eq hy) rfl rfl rfl rfl) ?_
  conv => whnf
  refine br.h h ?_ ?_ ?_
  · rfl
  · clear h; intro hb h; conv => whnf
    all_goals (cases h)
    all_goals exact ⟨rfl, rfl⟩
  clear h; intro hb h; conv => whnf
  obtain ⟨t, hy, h2⟩ := obind.elim h; clear h; have h := h2; clear h2
  refine sumK.introF [0] (sumRun_of (aqs := [.pt [.string ⟨⟨b.2.s⟩⟩, .bool b.2.made, .bool b.2.bad], .v (.int .i64 (b.2.s.length : Int))]) (ra_cons rfl (ra_cons rfl ra_nil)) (r70_eq hy) rfl rfl rfl rfl) ?_
  conv => whnf
  all_goals (cases h)
  all_goals exact ⟨rfl, rfl⟩
theorem ok72 (octet_Reader_Bad : octet_Reader → Option (Bool × octet_Reader)) (octet_Reader_Text : octet_Reader → Int → Option ((List UInt8) × octet_Reader)) (hS : SumsOK Try.prog (aget (sums72 octet_Reader_Bad octet_Reader_Text))) : SumOK Try.prog 72 (s72 (octet_Reader_RestF octet_Reader_Bad octet_Reader_Text)) := by
  refine SumOK.of_leads tab_ok (fun ar r ha hr => ?_) ⟨Try.f72, rfl, by decide, rfl⟩
  simp only [s72] at ha hr
  unfold r72 at hr
  split at hr <;> try (cases hr; done)
  split at hr <;> cases hr
  rename_i x h
  refine ⟨_, rfl, (leads72 octet_Reader_Bad octet_Reader_Text hS _ x h).mono fun v H t hp => ?_⟩
  obtain ⟨rfl, h0⟩ := hp
  exact Res.val rfl ⟨h0, rfl, trivial⟩
def octet_Reader_Rest : octet_Reader → Option ((List UInt8) × octet_Reader) := octet_Reader_RestF octet_Reader_Bad octet_Reader_Text
theorem lift72 : SumOK Try.prog 72 (s72 octet_Reader_Rest) := ok72 octet_Reader_Bad octet_Reader_Text (SumsOK.of_tab ⟨lift74, lift70, trivial⟩)
end Go.Vm.Code

namespace Go.Vm.Code
open Go Go.Vm Go.Proofs
set_option maxRecDepth 100000
set_option maxHeartbeats 4000000
set_option linter.unusedVariables false

/-! cloakroom/quic.id -/
def quic_idF (octet_Reader_Bad : octet_Reader → Option (Bool × octet_Reader)) (octet_Reader_Num : octet_Reader → Int → Option (Int × octet_Reader)) (octet_Reader_Text : octet_Reader → Int → Option ((List UInt8) × octet_Reader)) (ra0 : octet_Reader) : Option ((List UInt8) × Int × octet_Reader) :=
  (octet_Reader_Num ra0 1).bind fun n =>
  (octet_Reader_Bad n.2).bind fun b =>
  cond (!b.1)
    (
    cond (decide (n.1 > 20))
      (
      some (([], 3, b.2)))
      (
      (octet_Reader_Text b.2 n.1).bind fun t =>
      (octet_Reader_Bad t.2).bind fun b1 =>
      cond (b1.1)
        (
        some (([], 2, b1.2)))
        (
        some ((t.1, 0, b1.2)))))
    (
    (octet_Reader_Text b.2 n.1).bind fun t1 =>
    (octet_Reader_Bad t1.2).bind fun b2 =>
    cond (b2.1)
      (
      some (([], 2, b2.2)))
      (
      some ((t1.1, 0, b2.2))))
def post78 (x : (List UInt8) × Int × octet_Reader) (v : Value) (H : Hp) : Prop := v = .tuple ⟨[.string ⟨⟨x.1⟩⟩, .int .i64 x.2.1]⟩ ∧ aget H 0 = some (.cells [.string ⟨⟨x.2.2.s⟩⟩, .bool x.2.2.made, .bool x.2.2.bad])
def r78 (g : octet_Reader → Option ((List UInt8) × Int × octet_Reader)) : List SArg → Option SRes
  | [.pt [.string ⟨⟨a0_1⟩⟩, .bool a0_2, .bool a0_3]] => match g (octet_Reader.mk a0_1 a0_2 a0_3) with | some x => some ⟨.tuple ⟨[.string ⟨⟨x.1⟩⟩, .int .i64 x.2.1]⟩, [], [[.string ⟨⟨x.2.2.s⟩⟩, .bool x.2.2.made, .bool x.2.2.bad]]⟩ | none => none
  | _ => none
def s78 (g : octet_Reader → Option ((List UInt8) × Int × octet_Reader)) : Summ := ⟨[.pt 3], r78 g⟩
theorem r78_eq {g : octet_Reader → Option ((List UInt8) × Int × octet_Reader)} {a0_1 : List UInt8} {a0_2 : Bool} {a0_3 : Bool} {x : (List UInt8) × Int × octet_Reader} (hx : g (octet_Reader.mk a0_1 a0_2 a0_3) = some x) : (s78 g).run [.pt [.string ⟨⟨a0_1⟩⟩, .bool a0_2, .bool a0_3]] = some ⟨.tuple ⟨[.string ⟨⟨x.1⟩⟩, .int .i64 x.2.1]⟩, [], [[.string ⟨⟨x.2.2.s⟩⟩, .bool x.2.2.made, .bool x.2.2.bad]]⟩ := by
  show r78 g [.pt [.string ⟨⟨a0_1⟩⟩, .bool a0_2, .bool a0_3]] = _
  simp only [r78, hx]
abbrev sums78 (octet_Reader_Bad : octet_Reader → Option (Bool × octet_Reader)) (octet_Reader_Num : octet_Reader → Int → Option (Int × octet_Reader)) (octet_Reader_Text : octet_Reader → Int → Option ((List UInt8) × octet_Reader)) : List (Nat × Summ) := [(74, s74 octet_Reader_Bad), (68, s68 octet_Reader_Num), (70, s70 octet_Reader_Text)]
theorem leads78 (octet_Reader_Bad : octet_Reader → Option (Bool × octet_Reader)) (octet_Reader_Num : octet_Reader → Int → Option (Int × octet_Reader)) (octet_Reader_Text : octet_Reader → Int → Option ((List UInt8) × octet_Reader)) (hS : SumsOK Try.prog (aget (sums78 octet_Reader_Bad octet_Reader_Num octet_Reader_Text))) (ra0 : octet_Reader) (res : (List UInt8) × Int × octet_Reader) (h : quic_idF octet_Reader_Bad octet_Reader_Num octet_Reader_Text ra0 = some res) :
    Leads Try.prog 78 1 ⟨⟨78, 21, [(0, .pointer (some ⟨0, 0, none⟩))], [.code k78_19], [], false, none⟩, [], [(0, .cells [.string ⟨⟨ra0.s⟩⟩, .bool ra0.made, .bool ra0.bad])], 1⟩ (fun v H _ => post78 res v H) := by
  unfold quic_idF at h
  refine ev_ok tab_ok hS true 3000 ?_
  conv => whnf
  obtain ⟨n, hy, h2⟩ := obind.elim h; clear h; have h := h2; clear h2
  refine sumK.introF [0] (sumRun_of (aqs := [.pt [.string ⟨⟨ra0.s⟩⟩, .bool ra0.made, .bool ra0.bad], .v (.int .i64 1)]) (ra_cons rfl (ra_cons rfl ra_nil)) (r68_eq hy) rfl rfl rfl rfl) ?_
  conv => whnf
  obtain ⟨b, hy, h2⟩ := obind.elim h; clear h; have h := h2; clear h2
  refine sumK.introF [0] (sumRun_of (aqs := [.pt [.string ⟨⟨n.2.s⟩⟩, .bool n.2.made, .bool n.2.bad]]) (ra_cons rfl ra_nil) (r74_eq hy) rfl rfl rfl rfl) ?_
  conv => whnf
  refine br.h2 h ?_ ?_ ?_
  · rfl
  · clear h; intro hb h; conv => whnf
    obtain ⟨t1, hy, h2⟩ := obind.elim h; clear h; have h := h2; clear h2
    refine sumK.introF [0] (sumRun_of (aqs := [.pt [.string ⟨⟨b.2.s⟩⟩, .bool b.2.made, .bool b.2.bad], .v (.int .i64 n.1)]) (ra_cons rfl (ra_cons rfl ra_nil)) (r70_eq hy) rfl rfl rfl rfl) ?_
    conv => whnf
    obtain ⟨b2, hy, h2⟩ := obind.elim h; clear h; have h := h2; clear h2
    refine sumK.introF [0] (sumRun_of (aqs := [.pt [.string ⟨⟨t1.2.s⟩⟩, .bool t1.2.made, .bool t1.2.bad]]) (ra_cons rfl ra_nil) (r74_eq hy) rfl rfl rfl rfl) ?_
    conv => whnf
    refine br.h h ?_ ?_ ?_
    · rfl
    · clear h; intro hb h; conv => whnf
      all_goals (cases h)
      all_goals exact ⟨rfl, rfl⟩
    clear h; intro hb h; conv => whnf
    all_goals (cases h)
    all_goals exact ⟨rfl, rfl⟩
  clear h; intro hb h; conv => whnf
  refine br.h h ?_ ?_ ?_
  · rfl
  · clear h; intro hb h; conv => whnf
    all_goals (cases h)
    all_goals exact ⟨rfl, rfl⟩
  clear h; intro hb h; conv => whnf
  obtain ⟨t, hy, h2⟩ := obind.elim h; clear h; have h := h2; clear h2
  refine sumK.introF [0] (sumRun_of (aqs := [.pt [.string ⟨⟨b.2.s⟩⟩, .bool b.2.made, .bool b.2.bad], .v (.int .i64 n.1)]) (ra_cons rfl (ra_cons rfl ra_nil)) (r70_eq hy) rfl rfl rfl rfl) ?_
  conv => whnf
  obtain ⟨b1, hy, h2⟩ := obind.elim h; clear h; have h := h2; clear h2
  refine sumK.introF [0] (sumRun_of (aqs := [.pt [.string ⟨⟨t.2.s⟩⟩, .bool t.2.made, .bool t.2.bad]]) (ra_cons rfl ra_nil) (r74_eq hy) rfl rfl rfl rfl) ?_
  conv => whnf
  refine br.h h ?_ ?_ ?_
  · rfl
  · clear h; intro hb h; conv => whnf
    all_goals (cases h)
    all_goals exact ⟨rfl, rfl⟩
  clear h; intro hb h; conv => whnf
  all_goals (cases h)
  all_goals exact ⟨rfl, rfl⟩
theorem ok78 (octet_Reader_Bad : octet_Reader → Option (Bool × octet_Reader)) (octet_Reader_Num : octet_Reader → Int → Option (Int × octet_Reader)) (octet_Reader_Text : octet_Reader → Int → Option ((List UInt8) × octet_Reader)) (hS : SumsOK Try.prog (aget (sums78 octet_Reader_Bad octet_Reader_Num octet_Reader_Text))) : SumOK Try.prog 78 (s78 (quic_idF octet_Reader_Bad octet_Reader_Num octet_Reader_Text)) := by
  refine SumOK.of_leads tab_ok (fun ar r ha hr => ?_) ⟨Try.f78, rfl, by decide, rfl⟩
  simp only [s78] at ha hr
  unfold r78 at hr
  split at hr <;> try (cases hr; done)
  split at hr <;> cases hr
  rename_i x h
  refine ⟨_, rfl, (leads78 octet_Reader_Bad octet_Reader_Num octet_Reader_Text hS _ x h).mono fun v H t hp => ?_⟩
  obtain ⟨rfl, h0⟩ := hp
  exact Res.val rfl ⟨h0, rfl, trivial⟩
def quic_id : octet_Reader → Option ((List UInt8) × Int × octet_Reader) := quic_idF octet_Reader_Bad octet_Reader_Num octet_Reader_Text
theorem lift78 : SumOK Try.prog 78 (s78 quic_id) := ok78 octet_Reader_Bad octet_Reader_Num octet_Reader_Text (SumsOK.of_tab ⟨lift74, lift68, lift70, trivial⟩)
end Go.Vm.Code

namespace Go.Vm.Code
open Go Go.Vm Go.Proofs
set_option maxRecDepth 100000
set_option maxHeartbeats 4000000
set_option linter.unusedVariables false

/-! cloakroom/quic.Get -/
def quic_GetF (octet_New : (List UInt8) → Option octet_Reader) (octet_Reader_Bad : octet_Reader → Option (Bool × octet_Reader)) (octet_Reader_Num : octet_Reader → Int → Option (Int × octet_Reader)) (octet_Reader_Rest : octet_Reader → Option ((List UInt8) × octet_Reader)) (octet_Reader_Text : octet_Reader → Int → Option ((List UInt8) × octet_Reader)) (quic_id : octet_Reader → Option ((List UInt8) × Int × octet_Reader)) (s : List UInt8) : Option (quic_Head × Int) :=
  (octet_New s).bind fun n =>
  (octet_Reader_Num n 1).bind fun n1 =>
  (octet_Reader_Bad n1.2).bind fun b =>
  cond (b.1)
    (
    some ((quic_Head.mk false 0 0 [] [] [], 2)))
    (
    cond ((andI .i64 n1.1 64) == 0)
      (
      some ((quic_Head.mk false 0 0 [] [] [], 3)))
      (
      cond (!((andI .i64 n1.1 128) != 0))
        (
        (octet_Reader_Text b.2 8).bind fun t =>
        (octet_Reader_Bad t.2).bind fun b1 =>
        cond (b1.1)
          (
          some ((quic_Head.mk false 0 0 [] [] [], 2)))
          (
          (octet_Reader_Rest b1.2).bind fun xr =>
          some ((quic_Head.mk ((andI .i64 n1.1 128) != 0) (andI .i64 n1.1 63) 0 t.1 [] xr.1, 0))))
        (
        (octet_Reader_Num b.2 4).bind fun n2 =>
        (quic_id n2.2).bind fun i =>
        cond (i.2.1 != 0)
          (
          some ((quic_Head.mk false 0 0 [] [] [], i.2.1)))
          (
          (quic_id i.2.2).bind fun i1 =>
          cond (i1.2.1 != 0)
            (
            some ((quic_Head.mk false 0 0 [] [] [], i1.2.1)))
            (
            (octet_Reader_Rest i1.2.2).bind fun xr1 =>
            some ((quic_Head.mk ((andI .i64 n1.1 128) != 0) (andI .i64 n1.1 63) (wI .u32 n2.1) i.1 i1.1 xr1.1, 0)))))))
def post20 (x : quic_Head × Int) (v : Value) (H : Hp) : Prop := v = .tuple ⟨[.agg ⟨[.bool x.1.Long, .int .i64 x.1.Bits, .int .u32 x.1.Version, .string ⟨⟨x.1.DCID⟩⟩, .string ⟨⟨x.1.SCID⟩⟩, .string ⟨⟨x.1.Rest⟩⟩]⟩, .int .i64 x.2]⟩
def r20 (g : (List UInt8) → Option (quic_Head × Int)) : List SArg → Option SRes
  | [.v (.string ⟨⟨a0_1⟩⟩)] => match g a0_1 with | some x => some ⟨.tuple ⟨[.agg ⟨[.bool x.1.Long, .int .i64 x.1.Bits, .int .u32 x.1.Version, .string ⟨⟨x.1.DCID⟩⟩, .string ⟨⟨x.1.SCID⟩⟩, .string ⟨⟨x.1.Rest⟩⟩]⟩, .int .i64 x.2]⟩, [], []⟩ | none => none
  | _ => none
def s20 (g : (List UInt8) → Option (quic_Head × Int)) : Summ := ⟨[.v], r20 g⟩
theorem r20_eq {g : (List UInt8) → Option (quic_Head × Int)} {a0_1 : List UInt8} {x : quic_Head × Int} (hx : g a0_1 = some x) : (s20 g).run [.v (.string ⟨⟨a0_1⟩⟩)] = some ⟨.tuple ⟨[.agg ⟨[.bool x.1.Long, .int .i64 x.1.Bits, .int .u32 x.1.Version, .string ⟨⟨x.1.DCID⟩⟩, .string ⟨⟨x.1.SCID⟩⟩, .string ⟨⟨x.1.Rest⟩⟩]⟩, .int .i64 x.2]⟩, [], []⟩ := by
  show r20 g [.v (.string ⟨⟨a0_1⟩⟩)] = _
  simp only [r20, hx]
abbrev sums20 (octet_New : (List UInt8) → Option octet_Reader) (octet_Reader_Bad : octet_Reader → Option (Bool × octet_Reader)) (octet_Reader_Num : octet_Reader → Int → Option (Int × octet_Reader)) (octet_Reader_Rest : octet_Reader → Option ((List UInt8) × octet_Reader)) (octet_Reader_Text : octet_Reader → Int → Option ((List UInt8) × octet_Reader)) (quic_id : octet_Reader → Option ((List UInt8) × Int × octet_Reader)) : List (Nat × Summ) := [(67, s67 octet_New), (74, s74 octet_Reader_Bad), (68, s68 octet_Reader_Num), (72, s72 octet_Reader_Rest), (70, s70 octet_Reader_Text), (78, s78 quic_id)]
theorem leads20 (octet_New : (List UInt8) → Option octet_Reader) (octet_Reader_Bad : octet_Reader → Option (Bool × octet_Reader)) (octet_Reader_Num : octet_Reader → Int → Option (Int × octet_Reader)) (octet_Reader_Rest : octet_Reader → Option ((List UInt8) × octet_Reader)) (octet_Reader_Text : octet_Reader → Int → Option ((List UInt8) × octet_Reader)) (quic_id : octet_Reader → Option ((List UInt8) × Int × octet_Reader)) (hS : SumsOK Try.prog (aget (sums20 octet_New octet_Reader_Bad octet_Reader_Num octet_Reader_Rest octet_Reader_Text quic_id))) (s : List UInt8) (res : quic_Head × Int) (h : quic_GetF octet_New octet_Reader_Bad octet_Reader_Num octet_Reader_Rest octet_Reader_Text quic_id s = some res) :
    Leads Try.prog 20 0 ⟨⟨20, 60, [(0, .string ⟨⟨s⟩⟩)], [.code k20_51], [], false, none⟩, [], [], 0⟩ (fun v H _ => post20 res v H) := by
  unfold quic_GetF at h
  refine ev_ok tab_ok hS true 3000 ?_
  conv => whnf
  obtain ⟨n, hy, h2⟩ := obind.elim h; clear h; have h := h2; clear h2
  refine sumK.introF [] (sumRun_of (aqs := [.v (.string ⟨⟨s⟩⟩)]) (ra_cons rfl ra_nil) (r67_eq hy) rfl rfl rfl rfl) ?_
  conv => whnf
  obtain ⟨n1, hy, h2⟩ := obind.elim h; clear h; have h := h2; clear h2
  refine sumK.introF [1] (sumRun_of (aqs := [.pt [.string ⟨⟨n.s⟩⟩, .bool n.made, .bool n.bad], .v (.int .i64 1)]) (ra_cons rfl (ra_cons rfl ra_nil)) (r68_eq hy) rfl rfl rfl rfl) ?_
  conv => whnf
  obtain ⟨b, hy, h2⟩ := obind.elim h; clear h; have h := h2; clear h2
  refine sumK.introF [1] (sumRun_of (aqs := [.pt [.string ⟨⟨n1.2.s⟩⟩, .bool n1.2.made, .bool n1.2.bad]]) (ra_cons rfl ra_nil) (r74_eq hy) rfl rfl rfl rfl) ?_
  conv => whnf
  refine br.h h ?_ ?_ ?_
  · rfl
  · clear h; intro hb h; conv => whnf
    all_goals (cases h)
    all_goals exact rfl
  clear h; intro hb h; conv => whnf
  refine br.h h ?_ ?_ ?_
  · rfl
  · clear h; intro hb h; conv => whnf
    all_goals (cases h)
    all_goals exact rfl
  clear h; intro hb h; conv => whnf
  refine br.h h ?_ ?_ ?_
  · rfl
  · clear h; intro hb h; conv => whnf
    obtain ⟨t, hy, h2⟩ := obind.elim h; clear h; have h := h2; clear h2
    refine sumK.introF [1] (sumRun_of (aqs := [.pt [.string ⟨⟨b.2.s⟩⟩, .bool b.2.made, .bool b.2.bad], .v (.int .i64 8)]) (ra_cons rfl (ra_cons rfl ra_nil)) (r70_eq hy) rfl rfl rfl rfl) ?_
    conv => whnf
    obtain ⟨b1, hy, h2⟩ := obind.elim h; clear h; have h := h2; clear h2
    refine sumK.introF [1] (sumRun_of (aqs := [.pt [.string ⟨⟨t.2.s⟩⟩, .bool t.2.made, .bool t.2.bad]]) (ra_cons rfl ra_nil) (r74_eq hy) rfl rfl rfl rfl) ?_
    conv => whnf
    refine br.h h ?_ ?_ ?_
    · rfl
    · clear h; intro hb h; conv => whnf
      all_goals (cases h)
      all_goals exact rfl
    clear h; intro hb h; conv => whnf
    obtain ⟨xr, hy, h2⟩ := obind.elim h; clear h; have h := h2; clear h2
    refine sumK.introF [1] (sumRun_of (aqs := [.pt [.string ⟨⟨b1.2.s⟩⟩, .bool b1.2.made, .bool b1.2.bad]]) (ra_cons rfl ra_nil) (r72_eq hy) rfl rfl rfl rfl) ?_
    conv => whnf
    all_goals (cases h)
    all_goals exact rfl
  clear h; intro hb h; conv => whnf
  obtain ⟨n2, hy, h2⟩ := obind.elim h; clear h; have h := h2; clear h2
  refine sumK.introF [1] (sumRun_of (aqs := [.pt [.string ⟨⟨b.2.s⟩⟩, .bool b.2.made, .bool b.2.bad], .v (.int .i64 4)]) (ra_cons rfl (ra_cons rfl ra_nil)) (r68_eq hy) rfl rfl rfl rfl) ?_
  conv => whnf
  refine ev_ok tab_ok hS true 3000 ?_
  conv => whnf
  obtain ⟨i, hy, h2⟩ := obind.elim h; clear h; have h := h2; clear h2
  refine sumK.introF [1] (sumRun_of (aqs := [.pt [.string ⟨⟨n2.2.s⟩⟩, .bool n2.2.made, .bool n2.2.bad]]) (ra_cons rfl ra_nil) (r78_eq hy) rfl rfl rfl rfl) ?_
  conv => whnf
  refine br.h h ?_ ?_ ?_
  · rfl
  · clear h; intro hb h; conv => whnf
    refine br.pos ?_ ?_; (focus (clear h; first | assumption | (simp_all; done)))
    conv => whnf
    all_goals (cases h)
    all_goals exact rfl
  clear h; intro hb h; conv => whnf
  refine ev_ok tab_ok hS true 3000 ?_
  conv => whnf
  obtain ⟨i1, hy, h2⟩ := obind.elim h; clear h; have h := h2; clear h2
  refine sumK.introF [1] (sumRun_of (aqs := [.pt [.string ⟨⟨i.2.2.s⟩⟩, .bool i.2.2.made, .bool i.2.2.bad]]) (ra_cons rfl ra_nil) (r78_eq hy) rfl rfl rfl rfl) ?_
  conv => whnf
  refine br.h h ?_ ?_ ?_
  · rfl
  · clear h; intro hb h; conv => whnf
    refine br.pos ?_ ?_; (focus (clear h; first | assumption | (simp_all; done)))
    conv => whnf
    all_goals (cases h)
    all_goals exact rfl
  clear h; intro hb h; conv => whnf
  refine ev_ok tab_ok hS true 3000 ?_
  conv => whnf
  obtain ⟨xr1, hy, h2⟩ := obind.elim h; clear h; have h := h2; clear h2
  refine sumK.introF [1] (sumRun_of (aqs := [.pt [.string ⟨⟨i1.2.2.s⟩⟩, .bool i1.2.2.made, .bool i1.2.2.bad]]) (ra_cons rfl ra_nil) (r72_eq hy) rfl rfl rfl rfl) ?_
  conv => whnf
  all_goals (cases h)
  all_goals exact rfl
theorem ok20 (octet_New : (List UInt8) → Option octet_Reader) (octet_Reader_Bad : octet_Reader → Option (Bool × octet_Reader)) (octet_Reader_Num : octet_Reader → Int → Option (Int × octet_Reader)) (octet_Reader_Rest : octet_Reader → Option ((List UInt8) × octet_Reader)) (octet_Reader_Text : octet_Reader → Int → Option ((List UInt8) × octet_Reader)) (quic_id : octet_Reader → Option ((List UInt8) × Int × octet_Reader)) (hS : SumsOK Try.prog (aget (sums20 octet_New octet_Reader_Bad octet_Reader_Num octet_Reader_Rest octet_Reader_Text quic_id))) : SumOK Try.prog 20 (s20 (quic_GetF octet_New octet_Reader_Bad octet_Reader_Num octet_Reader_Rest octet_Reader_Text quic_id)) := by
  refine SumOK.of_leads tab_ok (fun ar r ha hr => ?_) ⟨Try.f20, rfl, by decide, rfl⟩
  simp only [s20] at ha hr
  unfold r20 at hr
  split at hr <;> try (cases hr; done)
  split at hr <;> cases hr
  rename_i x h
  refine ⟨_, rfl, (leads20 octet_New octet_Reader_Bad octet_Reader_Num octet_Reader_Rest octet_Reader_Text quic_id hS _ x h).mono fun v H t hp => ?_⟩
  cases hp
  exact Res.val rfl trivial
def quic_Get : (List UInt8) → Option (quic_Head × Int) := quic_GetF octet_New octet_Reader_Bad octet_Reader_Num octet_Reader_Rest octet_Reader_Text quic_id
theorem lift20 : SumOK Try.prog 20 (s20 quic_Get) := ok20 octet_New octet_Reader_Bad octet_Reader_Num octet_Reader_Rest octet_Reader_Text quic_id (SumsOK.of_tab ⟨lift67, lift74, lift68, lift72, lift70, lift78, trivial⟩)
end Go.Vm.Code

namespace Go.Vm.Code
open Go Go.Vm Go.Proofs
set_option maxRecDepth 100000
set_option maxHeartbeats 4000000
set_option linter.unusedVariables false

/-! cloakroom/quic.With -/
def quic_WithF (quic_Get : (List UInt8) → Option (quic_Head × Int)) (quic_Put : quic_Head → Option ((List UInt8) × Int)) (s : List UInt8) (cid : List UInt8) : Option ((List UInt8) × Int) :=
  (quic_Get s).bind fun xg =>
  cond (xg.2 != 0)
    (
    some (([], xg.2)))
    (
    cond ((cid.length : Int) != 8)
      (
      some (([], 1)))
      (
      cond (xg.1.Long)
        (
        (quic_Put (quic_Head.mk xg.1.Long xg.1.Bits xg.1.Version xg.1.DCID cid xg.1.Rest)).bind fun p =>
        some ((p.1, p.2)))
        (
        (quic_Put (quic_Head.mk xg.1.Long xg.1.Bits xg.1.Version cid xg.1.SCID xg.1.Rest)).bind fun p1 =>
        some ((p1.1, p1.2)))))
def post22 (x : (List UInt8) × Int) (v : Value) (H : Hp) : Prop := v = .tuple ⟨[.string ⟨⟨x.1⟩⟩, .int .i64 x.2]⟩
def r22 (g : (List UInt8) → (List UInt8) → Option ((List UInt8) × Int)) : List SArg → Option SRes
  | [.v (.string ⟨⟨a0_1⟩⟩), .v (.string ⟨⟨a1_1⟩⟩)] => match g a0_1 a1_1 with | some x => some ⟨.tuple ⟨[.string ⟨⟨x.1⟩⟩, .int .i64 x.2]⟩, [], []⟩ | none => none
  | _ => none
def s22 (g : (List UInt8) → (List UInt8) → Option ((List UInt8) × Int)) : Summ := ⟨[.v, .v], r22 g⟩
theorem r22_eq {g : (List UInt8) → (List UInt8) → Option ((List UInt8) × Int)} {a0_1 : List UInt8} {a1_1 : List UInt8} {x : (List UInt8) × Int} (hx : g a0_1 a1_1 = some x) : (s22 g).run [.v (.string ⟨⟨a0_1⟩⟩), .v (.string ⟨⟨a1_1⟩⟩)] = some ⟨.tuple ⟨[.string ⟨⟨x.1⟩⟩, .int .i64 x.2]⟩, [], []⟩ := by
  show r22 g [.v (.string ⟨⟨a0_1⟩⟩), .v (.string ⟨⟨a1_1⟩⟩)] = _
  simp only [r22, hx]
abbrev sums22 (quic_Get : (List UInt8) → Option (quic_Head × Int)) (quic_Put : quic_Head → Option ((List UInt8) × Int)) : List (Nat × Summ) := [(20, s20 quic_Get), (17, s17 quic_Put)]
theorem leads22 (quic_Get : (List UInt8) → Option (quic_Head × Int)) (quic_Put : quic_Head → Option ((List UInt8) × Int)) (hS : SumsOK Try.prog (aget (sums22 quic_Get quic_Put))) (s : List UInt8) (cid : List UInt8) (res : (List UInt8) × Int) (h : quic_WithF quic_Get quic_Put s cid = some res) :
    Leads Try.prog 22 0 ⟨⟨22, 32, [(0, .string ⟨⟨s⟩⟩), (1, .string ⟨⟨cid⟩⟩)], [.code k22_22], [], false, none⟩, [], [], 0⟩ (fun v H _ => post22 res v H) := by
  unfold quic_WithF at h
  refine ev_ok tab_ok hS true 3000 ?_
  conv => whnf
  obtain ⟨xg, hy, h2⟩ := obind.elim h; clear h; have h := h2; clear h2
  refine sumK.introF [] (sumRun_of (aqs := [.v (.string ⟨⟨s⟩⟩)]) (ra_cons rfl ra_nil) (r20_eq hy) rfl rfl rfl rfl) ?_
  conv => whnf
  refine br.h h ?_ ?_ ?_
  · rfl
  · clear h; intro hb h; conv => whnf
    all_goals (cases h)
    all_goals exact rfl
  clear h; intro hb h; conv => whnf
  refine br.h h ?_ ?_ ?_
  · rfl
  · clear h; intro hb h; conv => whnf
    all_goals (cases h)
    all_goals exact rfl
  clear h; intro hb h; conv => whnf
  refine br.h h ?_ ?_ ?_
  · rfl
  · clear h; intro hb h; conv => whnf
    obtain ⟨p, hy, h2⟩ := obind.elim h; clear h; have h := h2; clear h2
    refine sumK.introF [] (sumRun_of (aqs := [.v (.agg ⟨[.bool xg.1.Long, .int .i64 xg.1.Bits, .int .u32 xg.1.Version, .string ⟨⟨xg.1.DCID⟩⟩, .string ⟨⟨cid⟩⟩, .string ⟨⟨xg.1.Rest⟩⟩]⟩)]) (ra_cons rfl ra_nil) (r17_eq hy) rfl rfl rfl rfl) ?_
    conv => whnf
    all_goals (cases h)
    all_goals exact rfl
  clear h; intro hb h; conv => whnf
  obtain ⟨p1, hy, h2⟩ := obind.elim h; clear h; have h := h2; clear h2
  refine sumK.introF [] (sumRun_of (aqs := [.v (.agg ⟨[.bool xg.1.Long, .int .i64 xg.1.Bits, .int .u32 xg.1.Version, .string ⟨⟨cid⟩⟩, .string ⟨⟨xg.1.SCID⟩⟩, .string ⟨⟨xg.1.Rest⟩⟩]⟩)]) (ra_cons rfl ra_nil) (r17_eq hy) rfl rfl rfl rfl) ?_
  conv => whnf
  all_goals (cases h)
  all_goals exact rfl
theorem ok22 (quic_Get : (List UInt8) → Option (quic_Head × Int)) (quic_Put : quic_Head → Option ((List UInt8) × Int)) (hS : SumsOK Try.prog (aget (sums22 quic_Get quic_Put))) : SumOK Try.prog 22 (s22 (quic_WithF quic_Get quic_Put)) := by
  refine SumOK.of_leads tab_ok (fun ar r ha hr => ?_) ⟨Try.f22, rfl, by decide, rfl⟩
  simp only [s22] at ha hr
  unfold r22 at hr
  split at hr <;> try (cases hr; done)
  split at hr <;> cases hr
  rename_i x h
  refine ⟨_, rfl, (leads22 quic_Get quic_Put hS _ _ x h).mono fun v H t hp => ?_⟩
  cases hp
  exact Res.val rfl trivial
def quic_With : (List UInt8) → (List UInt8) → Option ((List UInt8) × Int) := quic_WithF quic_Get quic_Put
theorem lift22 : SumOK Try.prog 22 (s22 quic_With) := ok22 quic_Get quic_Put (SumsOK.of_tab ⟨lift20, lift17, trivial⟩)
end Go.Vm.Code

namespace Go.Vm.Code
open Go Go.Vm Go.Proofs
set_option maxRecDepth 100000
set_option maxHeartbeats 4000000
set_option linter.unusedVariables false

/-! cloakroom/cloakroomref09.Put -/
def R09_PutF (R02_Put : Int → Int → Option (List UInt8)) (ha0 : quic_Head) : Option ((List UInt8) × Int) :=
  cond (decide (ha0.Bits < 0))
    (
    some (([], 1)))
    (
    cond (decide (ha0.Bits > 63))
      (
      some (([], 1)))
      (
      cond (ha0.Long)
        (
        cond (decide ((ha0.DCID.length : Int) > 20))
          (
          some (([], 1)))
          (
          cond (decide ((ha0.SCID.length : Int) > 20))
            (
            some (([], 1)))
            (
            (R02_Put (wI .u64 (wI .i64 (192 + ha0.Bits))) 1).bind fun p =>
            (R02_Put (wI .u64 ha0.Version) 4).bind fun p1 =>
            oreq (decide (p.length + p1.length < 2 ^ 63)) <|
            (R02_Put (wI .u64 (ha0.DCID.length : Int)) 1).bind fun p2 =>
            oreq (decide ((p ++ p1).length + p2.length < 2 ^ 63)) <|
            oreq (decide (((p ++ p1) ++ p2).length + ha0.DCID.length < 2 ^ 63)) <|
            (R02_Put (wI .u64 (ha0.SCID.length : Int)) 1).bind fun p3 =>
            oreq (decide ((((p ++ p1) ++ p2) ++ ha0.DCID).length + p3.length < 2 ^ 63)) <|
            oreq (decide (((((p ++ p1) ++ p2) ++ ha0.DCID) ++ p3).length + ha0.SCID.length < 2 ^ 63)) <|
            let t := ((((p ++ p1) ++ p2) ++ ha0.DCID) ++ p3) ++ ha0.SCID
            oreq (decide (t.length + ha0.Rest.length < 2 ^ 63)) <|
            some ((t ++ ha0.Rest, 0)))))
        (
        cond ((ha0.DCID.length : Int) != 8)
          (
          some (([], 1)))
          (
          cond (!(ha0.SCID == []))
            (
            some (([], 1)))
            (
            cond (ha0.Version != 0)
              (
              some (([], 1)))
              (
              (R02_Put (wI .u64 (wI .i64 (64 + ha0.Bits))) 1).bind fun p4 =>
              oreq (decide (p4.length + ha0.DCID.length < 2 ^ 63)) <|
              oreq (decide ((p4 ++ ha0.DCID).length + ha0.Rest.length < 2 ^ 63)) <|
              some (((p4 ++ ha0.DCID) ++ ha0.Rest, 0))))))))
def post19 (x : (List UInt8) × Int) (v : Value) (H : Hp) : Prop := v = .tuple ⟨[.string ⟨⟨x.1⟩⟩, .int .i64 x.2]⟩
def r19 (g : quic_Head → Option ((List UInt8) × Int)) : List SArg → Option SRes
  | [.v (.agg ⟨[.bool a0_1, .int .i64 a0_2, .int .u32 a0_3, .string ⟨⟨a0_4⟩⟩, .string ⟨⟨a0_5⟩⟩, .string ⟨⟨a0_6⟩⟩]⟩)] => match g (quic_Head.mk a0_1 a0_2 a0_3 a0_4 a0_5 a0_6) with | some x => some ⟨.tuple ⟨[.string ⟨⟨x.1⟩⟩, .int .i64 x.2]⟩, [], []⟩ | none => none
  | _ => none
def s19 (g : quic_Head → Option ((List UInt8) × Int)) : Summ := ⟨[.v], r19 g⟩
theorem r19_eq {g : quic_Head → Option ((List UInt8) × Int)} {a0_1 : Bool} {a0_2 : Int} {a0_3 : Int} {a0_4 : List UInt8} {a0_5 : List UInt8} {a0_6 : List UInt8} {x : (List UInt8) × Int} (hx : g (quic_Head.mk a0_1 a0_2 a0_3 a0_4 a0_5 a0_6) = some x) : (s19 g).run [.v (.agg ⟨[.bool a0_1, .int .i64 a0_2, .int .u32 a0_3, .string ⟨⟨a0_4⟩⟩, .string ⟨⟨a0_5⟩⟩, .string ⟨⟨a0_6⟩⟩]⟩)] = some ⟨.tuple ⟨[.string ⟨⟨x.1⟩⟩, .int .i64 x.2]⟩, [], []⟩ := by
  show r19 g [.v (.agg ⟨[.bool a0_1, .int .i64 a0_2, .int .u32 a0_3, .string ⟨⟨a0_4⟩⟩, .string ⟨⟨a0_5⟩⟩, .string ⟨⟨a0_6⟩⟩]⟩)] = _
  simp only [r19, hx]
abbrev sums19 (R02_Put : Int → Int → Option (List UInt8)) : List (Nat × Summ) := [(64, s64 R02_Put)]
theorem leads19 (R02_Put : Int → Int → Option (List UInt8)) (hS : SumsOK Try.prog (aget (sums19 R02_Put))) (ha0 : quic_Head) (res : (List UInt8) × Int) (h : R09_PutF R02_Put ha0 = some res) :
    Leads Try.prog 19 0 ⟨⟨19, 80, [(0, .agg ⟨[.bool ha0.Long, .int .i64 ha0.Bits, .int .u32 ha0.Version, .string ⟨⟨ha0.DCID⟩⟩, .string ⟨⟨ha0.SCID⟩⟩, .string ⟨⟨ha0.Rest⟩⟩]⟩)], [.code k19_27], [], false, none⟩, [], [], 0⟩ (fun v H _ => post19 res v H) := by
  unfold R09_PutF at h
  refine ev_ok tab_ok hS true 3000 ?_
  conv => whnf
  refine br.h h ?_ ?_ ?_
  · rfl
  · clear h; intro hb h; conv => whnf
    all_goals (cases h)
    all_goals exact rfl
  clear h; intro hb h; conv => whnf
  refine br.h h ?_ ?_ ?_
  · rfl
  · clear h; intro hb h; conv => whnf
    all_goals (cases h)
    all_goals exact rfl
  clear h; intro hb h; conv => whnf
  refine br.h2 h ?_ ?_ ?_
  · rfl
  · clear h; intro hb h; conv => whnf
    refine br.h h ?_ ?_ ?_
    · rfl
    · clear h; intro hb h; conv => whnf
      all_goals (cases h)
      all_goals exact rfl
    clear h; intro hb h; conv => whnf
    refine br.h h ?_ ?_ ?_
    · rfl
    · clear h; intro hb h; conv => whnf
      all_goals (cases h)
      all_goals exact rfl
    clear h; intro hb h; conv => whnf
    refine br.h h ?_ ?_ ?_
    · rfl
    · clear h; intro hb h; conv => whnf
      all_goals (cases h)
      all_goals exact rfl
    clear h; intro hb h; conv => whnf
    obtain ⟨p4, hy, h2⟩ := obind.elim h; clear h; have h := h2; clear h2
    refine sumK.introF [] (sumRun_of (aqs := [.v (.int .u64 (wI .u64 (wI .i64 (64 + ha0.Bits)))), .v (.int .i64 1)]) (ra_cons rfl (ra_cons rfl ra_nil)) (r64_eq hy) rfl rfl rfl rfl) ?_
    conv => whnf
    replace h := oreq.elim h; have hb := h.1; replace h := h.2
    first | (refine req.intro hb ?_; conv => whnf) | skip
    replace h := oreq.elim h; have hb := h.1; replace h := h.2
    first | (refine req.intro hb ?_; conv => whnf) | skip
    all_goals (cases h)
    all_goals exact rfl
  clear h; intro hb h; conv => whnf
  refine br.h h ?_ ?_ ?_
  · rfl
  · clear h; intro hb h; conv => whnf
    all_goals (cases h)
    all_goals exact rfl
  clear h; intro hb h; conv => whnf
  refine br.h h ?_ ?_ ?_
  · rfl
  · clear h; intro hb h; conv => whnf
    all_goals (cases h)
    all_goals exact rfl
  clear h; intro hb h; conv => whnf
  obtain ⟨p, hy, h2⟩ := obind.elim h; clear h; have h := h2; clear h2
  refine sumK.introF [] (sumRun_of (aqs := [.v (.int .u64 (wI .u64 (wI .i64 (192 + ha0.Bits)))), .v (.int .i64 1)]) (ra_cons rfl (ra_cons rfl ra_nil)) (r64_eq hy) rfl rfl rfl rfl) ?_
  conv => whnf
  obtain ⟨p1, hy, h2⟩ := obind.elim h; clear h; have h := h2; clear h2
  refine sumK.introF [] (sumRun_of (aqs := [.v (.int .u64 (wI .u64 ha0.Version)), .v (.int .i64 4)]) (ra_cons rfl (ra_cons rfl ra_nil)) (r64_eq hy) rfl rfl rfl rfl) ?_
  conv => whnf
  replace h := oreq.elim h; have hb := h.1; replace h := h.2
  first | (refine req.intro hb ?_; conv => whnf) | skip
  obtain ⟨p2, hy, h2⟩ := obind.elim h; clear h; have h := h2; clear h2
  refine sumK.introF [] (sumRun_of (aqs := [.v (.int .u64 (wI .u64 (ha0.DCID.length : Int))), .v (.int .i64 1)]) (ra_cons rfl (ra_cons rfl ra_nil)) (r64_eq hy) rfl rfl rfl rfl) ?_
  conv => whnf
  replace h := oreq.elim h; have hb := h.1; replace h := h.2
  first | (refine req.intro hb ?_; conv => whnf) | skip
  replace h := oreq.elim h; have hb := h.1; replace h := h.2
  first | (refine req.intro hb ?_; conv => whnf) | skip
  obtain ⟨p3, hy, h2⟩ := obind.elim h; clear h; have h := h2; clear h2
  refine sumK.introF [] (sumRun_of (aqs := [.v (.int .u64 (wI .u64 (ha0.SCID.length : Int))), .v (.int .i64 1)]) (ra_cons rfl (ra_cons rfl ra_nil)) (r64_eq hy) rfl rfl rfl rfl) ?_
  conv => whnf
  replace h := oreq.elim h; have hb := h.1; replace h := h.2
  first | (refine req.intro hb ?_; conv => whnf) | skip
  replace h := oreq.elim h; have hb := h.1; replace h := h.2
  first | (refine req.intro hb ?_; conv => whnf) | skip
  let t : List UInt8 := ((((p ++ p1) ++ p2) ++ ha0.DCID) ++ p3) ++ ha0.SCID
  replace h := oreq.elim h; have hb := h.1; replace h := h.2
  first | (refine req.intro hb ?_; conv => whnf) | skip
  all_goals (cases h)
  all_goals exact rfl
theorem ok19 (R02_Put : Int → Int → Option (List UInt8)) (hS : SumsOK Try.prog (aget (sums19 R02_Put))) : SumOK Try.prog 19 (s19 (R09_PutF R02_Put)) := by
  refine SumOK.of_leads tab_ok (fun ar r ha hr => ?_) ⟨Try.f19, rfl, by decide, rfl⟩
  simp only [s19] at ha hr
  unfold r19 at hr
  split at hr <;> try (cases hr; done)
  split at hr <;> cases hr
  rename_i x h
  refine ⟨_, rfl, (leads19 R02_Put hS _ x h).mono fun v H t hp => ?_⟩
  cases hp
  exact Res.val rfl trivial
def R09_Put : quic_Head → Option ((List UInt8) × Int) := R09_PutF R02_Put
theorem lift19 : SumOK Try.prog 19 (s19 R09_Put) := ok19 R02_Put (SumsOK.of_tab ⟨lift64, trivial⟩)
end Go.Vm.Code

namespace Go.Vm.Code
open Go Go.Vm Go.Proofs
set_option maxRecDepth 100000
set_option maxHeartbeats 4000000
set_option linter.unusedVariables false

/-! cloakroom/cloakroomref09.id -/
def R09_idF (s : List UInt8) (ata1 : Int) : Option ((List UInt8) × Int × Int) :=
  cond (decide (ata1 ≥ (s.length : Int)))
    (
    some (([], 2, 0)))
    (
    oreq (decide (0 ≤ ata1)) <|
    (s[ata1.toNat]?).bind fun (b : UInt8) =>
    cond (decide ((wI .i64 (b.toNat : Int)) > 20))
      (
      some (([], 3, 0)))
      (
      let t := wI .i64 ((wI .i64 ((s.length : Int) - ata1)) - 1)
      cond (decide ((wI .i64 (b.toNat : Int)) > t))
        (
        some (([], 2, 0)))
        (
        let t1 := wI .i64 ((wI .i64 (ata1 + 1)) + (wI .i64 (b.toNat : Int)))
        oreq (decide ((0 : Int) ≤ t1 ∧ t1 ≤ (s.length : Int) ∧ (0 : Int) ≤ (wI .i64 (ata1 + 1)) ∧ (wI .i64 (ata1 + 1)) ≤ (t1.toNat : Int))) <|
        let t2 := (s.drop (wI .i64 (ata1 + 1)).toNat).take (t1.toNat - (wI .i64 (ata1 + 1)).toNat)
        let t3 := wI .i64 ((wI .i64 (ata1 + 1)) + (wI .i64 (b.toNat : Int)))
        some ((t2, 0, t3)))))
def post80 (x : (List UInt8) × Int × Int) (v : Value) (H : Hp) : Prop := v = .tuple ⟨[.string ⟨⟨x.1⟩⟩, .int .i64 x.2.1, .int .i64 x.2.2]⟩
def r80 (g : (List UInt8) → Int → Option ((List UInt8) × Int × Int)) : List SArg → Option SRes
  | [.v (.string ⟨⟨a0_1⟩⟩), .v (.int .i64 a1_1)] => match g a0_1 a1_1 with | some x => some ⟨.tuple ⟨[.string ⟨⟨x.1⟩⟩, .int .i64 x.2.1, .int .i64 x.2.2]⟩, [], []⟩ | none => none
  | _ => none
def s80 (g : (List UInt8) → Int → Option ((List UInt8) × Int × Int)) : Summ := ⟨[.v, .v], r80 g⟩
theorem r80_eq {g : (List UInt8) → Int → Option ((List UInt8) × Int × Int)} {a0_1 : List UInt8} {a1_1 : Int} {x : (List UInt8) × Int × Int} (hx : g a0_1 a1_1 = some x) : (s80 g).run [.v (.string ⟨⟨a0_1⟩⟩), .v (.int .i64 a1_1)] = some ⟨.tuple ⟨[.string ⟨⟨x.1⟩⟩, .int .i64 x.2.1, .int .i64 x.2.2]⟩, [], []⟩ := by
  show r80 g [.v (.string ⟨⟨a0_1⟩⟩), .v (.int .i64 a1_1)] = _
  simp only [r80, hx]
abbrev sums80 : List (Nat × Summ) := []
theorem leads80 (hS : SumsOK Try.prog (aget (sums80))) (s : List UInt8) (ata1 : Int) (res : (List UInt8) × Int × Int) (h : R09_idF s ata1 = some res) :
    Leads Try.prog 80 0 ⟨⟨80, 37, [(0, .string ⟨⟨s⟩⟩), (1, .int .i64 ata1)], [.code k80_23], [], false, none⟩, [], [], 0⟩ (fun v H _ => post80 res v H) := by
  unfold R09_idF at h
  refine ev_ok tab_ok hS true 3000 ?_
  conv => whnf
  refine br.h h ?_ ?_ ?_
  · rfl
  · clear h; intro hb h; conv => whnf
    all_goals (cases h)
    all_goals exact rfl
  clear h; intro hb h; conv => whnf
  replace h := oreq.elim h; have hb := h.1; replace h := h.2
  first | (refine req.intro hb ?_; conv => whnf) | skip
  obtain ⟨b, hy, h2⟩ := obind.elim h; clear h; have h := h2; clear h2
  refine rdS.intro hy ?_
  conv => whnf
  refine br.h h ?_ ?_ ?_
  · rfl
  · clear h; intro hb h; conv => whnf
    all_goals (cases h)
    all_goals exact rfl
  clear h; intro hb h; conv => whnf
  let t : Int := wI .i64 ((wI .i64 ((s.length : Int) - ata1)) - 1)
  refine br.h h ?_ ?_ ?_
  · rfl
  · clear h; intro hb h; conv => whnf
    all_goals (cases h)
    all_goals exact rfl
  clear h; intro hb h; conv => whnf
  let t1 : Int := wI .i64 ((wI .i64 (ata1 + 1)) + (wI .i64 (b.toNat : Int)))
  replace h := oreq.elim h; have hb := h.1; replace h := h.2
  first | (refine req.intro hb ?_; conv => whnf) | skip
  let t2 : List UInt8 := (s.drop (wI .i64 (ata1 + 1)).toNat).take (t1.toNat - (wI .i64 (ata1 + 1)).toNat)
  let t3 : Int := wI .i64 ((wI .i64 (ata1 + 1)) + (wI .i64 (b.toNat : Int)))
  all_goals (cases h)
  all_goals exact rfl
theorem ok80 (hS : SumsOK Try.prog (aget (sums80))) : SumOK Try.prog 80 (s80 (R09_idF)) := by
  refine SumOK.of_leads tab_ok (fun ar r ha hr => ?_) ⟨Try.f80, rfl, by decide, rfl⟩
  simp only [s80] at ha hr
  unfold r80 at hr
  split at hr <;> try (cases hr; done)
  split at hr <;> cases hr
  rename_i x h
  refine ⟨_, rfl, (leads80 hS _ _ x h).mono fun v H t hp => ?_⟩
  cases hp
  exact Res.val rfl trivial
def R09_id : (List UInt8) → Int → Option ((List UInt8) × Int × Int) := R09_idF
theorem lift80 : SumOK Try.prog 80 (s80 R09_id) := ok80 (SumsOK.of_tab trivial)
end Go.Vm.Code

namespace Go.Vm.Code
open Go Go.Vm Go.Proofs
set_option maxRecDepth 100000
set_option maxHeartbeats 4000000
set_option linter.unusedVariables false

/-! cloakroom/cloakroomref09.Get -/
def R09_GetF (R02_Must : (List UInt8) → Int → Int → Option Int) (R09_id : (List UInt8) → Int → Option ((List UInt8) × Int × Int)) (s : List UInt8) : Option (quic_Head × Int) :=
  cond (s == [])
    (
    some ((quic_Head.mk false 0 0 [] [] [], 2)))
    (
    (s[0]?).bind fun (b : UInt8) =>
    let t := (wI .u8 ((b.toNat : Int).tdiv 64)).tmod 2
    cond (t == 0)
      (
      some ((quic_Head.mk false 0 0 [] [] [], 3)))
      (
      (s[0]?).bind fun (b1 : UInt8) =>
      (s[0]?).bind fun (b2 : UInt8) =>
      cond (!(decide ((b1.toNat : Int) ≥ 128)))
        (
        cond (decide ((s.length : Int) < 9))
          (
          some ((quic_Head.mk false 0 0 [] [] [], 2)))
          (
          oreq (decide ((0 : Int) ≤ (9 : Int) ∧ (9 : Int) ≤ (s.length : Int) ∧ (0 : Int) ≤ (1 : Int) ∧ (1 : Int) ≤ (9 : Int))) <|
          oreq (decide ((0 : Int) ≤ (9 : Int) ∧ (9 : Int) ≤ (s.length : Int))) <|
          some ((quic_Head.mk (decide ((b1.toNat : Int) ≥ 128)) (wI .i64 ((b2.toNat : Int).tmod 64)) 0 ((s.drop 1).take 8) [] ((s.drop 9).take (s.length - 9)), 0))))
        (
        cond (decide ((s.length : Int) < 5))
          (
          some ((quic_Head.mk false 0 0 [] [] [], 2)))
          (
          (R02_Must s 1 4).bind fun m =>
          (R09_id s 5).bind fun i =>
          cond (i.2.1 != 0)
            (
            some ((quic_Head.mk false 0 0 [] [] [], i.2.1)))
            (
            (R09_id s i.2.2).bind fun i1 =>
            cond (i1.2.1 != 0)
              (
              some ((quic_Head.mk false 0 0 [] [] [], i1.2.1)))
              (
              oreq (decide ((0 : Int) ≤ i1.2.2 ∧ i1.2.2 ≤ (s.length : Int))) <|
              let t1 := (s.drop i1.2.2.toNat).take (s.length - i1.2.2.toNat)
              some ((quic_Head.mk (decide ((b1.toNat : Int) ≥ 128)) (wI .i64 ((b2.toNat : Int).tmod 64)) (wI .u32 m) i.1 i1.1 t1, 0))))))))
def post21 (x : quic_Head × Int) (v : Value) (H : Hp) : Prop := v = .tuple ⟨[.agg ⟨[.bool x.1.Long, .int .i64 x.1.Bits, .int .u32 x.1.Version, .string ⟨⟨x.1.DCID⟩⟩, .string ⟨⟨x.1.SCID⟩⟩, .string ⟨⟨x.1.Rest⟩⟩]⟩, .int .i64 x.2]⟩
def r21 (g : (List UInt8) → Option (quic_Head × Int)) : List SArg → Option SRes
  | [.v (.string ⟨⟨a0_1⟩⟩)] => match g a0_1 with | some x => some ⟨.tuple ⟨[.agg ⟨[.bool x.1.Long, .int .i64 x.1.Bits, .int .u32 x.1.Version, .string ⟨⟨x.1.DCID⟩⟩, .string ⟨⟨x.1.SCID⟩⟩, .string ⟨⟨x.1.Rest⟩⟩]⟩, .int .i64 x.2]⟩, [], []⟩ | none => none
  | _ => none
def s21 (g : (List UInt8) → Option (quic_Head × Int)) : Summ := ⟨[.v], r21 g⟩
theorem r21_eq {g : (List UInt8) → Option (quic_Head × Int)} {a0_1 : List UInt8} {x : quic_Head × Int} (hx : g a0_1 = some x) : (s21 g).run [.v (.string ⟨⟨a0_1⟩⟩)] = some ⟨.tuple ⟨[.agg ⟨[.bool x.1.Long, .int .i64 x.1.Bits, .int .u32 x.1.Version, .string ⟨⟨x.1.DCID⟩⟩, .string ⟨⟨x.1.SCID⟩⟩, .string ⟨⟨x.1.Rest⟩⟩]⟩, .int .i64 x.2]⟩, [], []⟩ := by
  show r21 g [.v (.string ⟨⟨a0_1⟩⟩)] = _
  simp only [r21, hx]
abbrev sums21 (R02_Must : (List UInt8) → Int → Int → Option Int) (R09_id : (List UInt8) → Int → Option ((List UInt8) × Int × Int)) : List (Nat × Summ) := [(79, s79 R02_Must), (80, s80 R09_id)]
theorem leads21 (R02_Must : (List UInt8) → Int → Int → Option Int) (R09_id : (List UInt8) → Int → Option ((List UInt8) × Int × Int)) (hS : SumsOK Try.prog (aget (sums21 R02_Must R09_id))) (s : List UInt8) (res : quic_Head × Int) (h : R09_GetF R02_Must R09_id s = some res) :
    Leads Try.prog 21 0 ⟨⟨21, 79, [(0, .string ⟨⟨s⟩⟩)], [.code k21_63], [], false, none⟩, [], [], 0⟩ (fun v H _ => post21 res v H) := by
  unfold R09_GetF at h
  refine ev_ok tab_ok hS true 3000 ?_
  conv => whnf
  refine br.h h ?_ ?_ ?_
  · rfl
  · clear h; intro hb h; conv => whnf
    all_goals (cases h)
    all_goals exact rfl
  clear h; intro hb h; conv => whnf
  obtain ⟨b, hy, h2⟩ := obind.elim h; clear h; have h := h2; clear h2
  refine rdS.intro hy ?_
  conv => whnf
  let t : Int := (wI .u8 ((b.toNat : Int).tdiv 64)).tmod 2
  refine br.h h ?_ ?_ ?_
  · rfl
  · clear h; intro hb h; conv => whnf
    all_goals (cases h)
    all_goals exact rfl
  clear h; intro hb h; conv => whnf
  obtain ⟨b1, hy, h2⟩ := obind.elim h; clear h; have h := h2; clear h2
  refine rdS.intro hy ?_
  conv => whnf
  obtain ⟨b2, hy, h2⟩ := obind.elim h; clear h; have h := h2; clear h2
  refine rdS.intro hy ?_
  conv => whnf
  refine br.h h ?_ ?_ ?_
  · rfl
  · clear h; intro hb h; conv => whnf
    refine br.h h ?_ ?_ ?_
    · rfl
    · clear h; intro hb h; conv => whnf
      all_goals (cases h)
      all_goals exact rfl
    clear h; intro hb h; conv => whnf
    replace h := oreq.elim h; have hb := h.1; replace h := h.2
    first | (refine req.intro hb ?_; conv => whnf) | skip
    replace h := oreq.elim h; have hb := h.1; replace h := h.2
    first | (refine req.intro hb ?_; conv => whnf) | skip
    all_goals (cases h)
    all_goals exact rfl
  clear h; intro hb h; conv => whnf
  refine br.h h ?_ ?_ ?_
  · rfl
  · clear h; intro hb h; conv => whnf
    all_goals (cases h)
    all_goals exact rfl
  clear h; intro hb h; conv => whnf
  obtain ⟨m, hy, h2⟩ := obind.elim h; clear h; have h := h2; clear h2
  refine sumK.introF [] (sumRun_of (aqs := [.v (.string ⟨⟨s⟩⟩), .v (.int .i64 1), .v (.int .i64 4)]) (ra_cons rfl (ra_cons rfl (ra_cons rfl ra_nil))) (r79_eq hy) rfl rfl rfl rfl) ?_
  conv => whnf
  obtain ⟨i, hy, h2⟩ := obind.elim h; clear h; have h := h2; clear h2
  refine sumK.introF [] (sumRun_of (aqs := [.v (.string ⟨⟨s⟩⟩), .v (.int .i64 5)]) (ra_cons rfl (ra_cons rfl ra_nil)) (r80_eq hy) rfl rfl rfl rfl) ?_
  conv => whnf
  refine br.h h ?_ ?_ ?_
  · rfl
  · clear h; intro hb h; conv => whnf
    all_goals (cases h)
    all_goals exact rfl
  clear h; intro hb h; conv => whnf
  obtain ⟨i1, hy, h2⟩ := obind.elim h; clear h; have h := h2; clear h2
  refine sumK.introF [] (sumRun_of (aqs := [.v (.string ⟨⟨s⟩⟩), .v (.int .i64 i.2.2)]) (ra_cons rfl (ra_cons rfl ra_nil)) (r80_eq hy) rfl rfl rfl rfl) ?_
  conv => whnf
  refine br.h h ?_ ?_ ?_
  · rfl
  · clear h; intro hb h; conv => whnf
    all_goals (cases h)
    all_goals exact rfl
  clear h; intro hb h; conv => whnf
  replace h := oreq.elim h; have hb := h.1; replace h := h.2
  first | (refine req.intro hb ?_; conv => whnf) | skip
  let t1 : List UInt8 := (s.drop i1.2.2.toNat).take (s.length - i1.2.2.toNat)
  all_goals (cases h)
  all_goals exact rfl
theorem ok21 (R02_Must : (List UInt8) → Int → Int → Option Int) (R09_id : (List UInt8) → Int → Option ((List UInt8) × Int × Int)) (hS : SumsOK Try.prog (aget (sums21 R02_Must R09_id))) : SumOK Try.prog 21 (s21 (R09_GetF R02_Must R09_id)) := by
  refine SumOK.of_leads tab_ok (fun ar r ha hr => ?_) ⟨Try.f21, rfl, by decide, rfl⟩
  simp only [s21] at ha hr
  unfold r21 at hr
  split at hr <;> try (cases hr; done)
  split at hr <;> cases hr
  rename_i x h
  refine ⟨_, rfl, (leads21 R02_Must R09_id hS _ x h).mono fun v H t hp => ?_⟩
  cases hp
  exact Res.val rfl trivial
def R09_Get : (List UInt8) → Option (quic_Head × Int) := R09_GetF R02_Must R09_id
theorem lift21 : SumOK Try.prog 21 (s21 R09_Get) := ok21 R02_Must R09_id (SumsOK.of_tab ⟨lift79, lift80, trivial⟩)
end Go.Vm.Code

namespace Go.Vm.Code
open Go Go.Vm Go.Proofs
set_option maxRecDepth 100000
set_option maxHeartbeats 4000000
set_option linter.unusedVariables false

/-! cloakroom/cloakroomref09.With -/
def R09_WithF (R09_Get : (List UInt8) → Option (quic_Head × Int)) (R09_Put : quic_Head → Option ((List UInt8) × Int)) (s : List UInt8) (cid : List UInt8) : Option ((List UInt8) × Int) :=
  (R09_Get s).bind fun xg =>
  cond (xg.2 != 0)
    (
    some (([], xg.2)))
    (
    cond ((cid.length : Int) != 8)
      (
      some (([], 1)))
      (
      cond (xg.1.Long)
        (
        (R09_Put (quic_Head.mk xg.1.Long xg.1.Bits xg.1.Version xg.1.DCID cid xg.1.Rest)).bind fun p =>
        some ((p.1, p.2)))
        (
        (R09_Put (quic_Head.mk xg.1.Long xg.1.Bits xg.1.Version cid xg.1.SCID xg.1.Rest)).bind fun p1 =>
        some ((p1.1, p1.2)))))
def post23 (x : (List UInt8) × Int) (v : Value) (H : Hp) : Prop := v = .tuple ⟨[.string ⟨⟨x.1⟩⟩, .int .i64 x.2]⟩
def r23 (g : (List UInt8) → (List UInt8) → Option ((List UInt8) × Int)) : List SArg → Option SRes
  | [.v (.string ⟨⟨a0_1⟩⟩), .v (.string ⟨⟨a1_1⟩⟩)] => match g a0_1 a1_1 with | some x => some ⟨.tuple ⟨[.string ⟨⟨x.1⟩⟩, .int .i64 x.2]⟩, [], []⟩ | none => none
  | _ => none
def s23 (g : (List UInt8) → (List UInt8) → Option ((List UInt8) × Int)) : Summ := ⟨[.v, .v], r23 g⟩
theorem r23_eq {g : (List UInt8) → (List UInt8) → Option ((List UInt8) × Int)} {a0_1 : List UInt8} {a1_1 : List UInt8} {x : (List UInt8) × Int} (hx : g a0_1 a1_1 = some x) : (s23 g).run [.v (.string ⟨⟨a0_1⟩⟩), .v (.string ⟨⟨a1_1⟩⟩)] = some ⟨.tuple ⟨[.string ⟨⟨x.1⟩⟩, .int .i64 x.2]⟩, [], []⟩ := by
  show r23 g [.v (.string ⟨⟨a0_1⟩⟩), .v (.string ⟨⟨a1_1⟩⟩)] = _
  simp only [r23, hx]
abbrev sums23 (R09_Get : (List UInt8) → Option (quic_Head × Int)) (R09_Put : quic_Head → Option ((List UInt8) × Int)) : List (Nat × Summ) := [(21, s21 R09_Get), (19, s19 R09_Put)]
theorem leads23 (R09_Get : (List UInt8) → Option (quic_Head × Int)) (R09_Put : quic_Head → Option ((List UInt8) × Int)) (hS : SumsOK Try.prog (aget (sums23 R09_Get R09_Put))) (s : List UInt8) (cid : List UInt8) (res : (List UInt8) × Int) (h : R09_WithF R09_Get R09_Put s cid = some res) :
    Leads Try.prog 23 0 ⟨⟨23, 29, [(0, .string ⟨⟨s⟩⟩), (1, .string ⟨⟨cid⟩⟩)], [.code k23_23], [], false, none⟩, [], [], 0⟩ (fun v H _ => post23 res v H) := by
  unfold R09_WithF at h
  refine ev_ok tab_ok hS true 3000 ?_
  conv => whnf
  obtain ⟨xg, hy, h2⟩ := obind.elim h; clear h; have h := h2; clear h2
  refine sumK.introF [] (sumRun_of (aqs := [.v (.string ⟨⟨s⟩⟩)]) (ra_cons rfl ra_nil) (r21_eq hy) rfl rfl rfl rfl) ?_
  conv => whnf
  refine br.h h ?_ ?_ ?_
  · rfl
  · clear h; intro hb h; conv => whnf
    all_goals (cases h)
    all_goals exact rfl
  clear h; intro hb h; conv => whnf
  refine br.h h ?_ ?_ ?_
  · rfl
  · clear h; intro hb h; conv => whnf
    all_goals (cases h)
    all_goals exact rfl
  clear h; intro hb h; conv => whnf
  refine br.h h ?_ ?_ ?_
  · rfl
  · clear h; intro hb h; conv => whnf
    obtain ⟨p, hy, h2⟩ := obind.elim h; clear h; have h := h2; clear h2
    refine sumK.introF [] (sumRun_of (aqs := [.v (.agg ⟨[.bool xg.1.Long, .int .i64 xg.1.Bits, .int .u32 xg.1.Version, .string ⟨⟨xg.1.DCID⟩⟩, .string ⟨⟨cid⟩⟩, .string ⟨⟨xg.1.Rest⟩⟩]⟩)]) (ra_cons rfl ra_nil) (r19_eq hy) rfl rfl rfl rfl) ?_
    conv => whnf
    all_goals (cases h)
    all_goals exact rfl
  clear h; intro hb h; conv => whnf
  obtain ⟨p1, hy, h2⟩ := obind.elim h; clear h; have h := h2; clear h2
  refine sumK.introF [] (sumRun_of (aqs := [.v (.agg ⟨[.bool xg.1.Long, .int .i64 xg.1.Bits, .int .u32 xg.1.Version, .string ⟨⟨cid⟩⟩, .string ⟨⟨xg.1.SCID⟩⟩, .string ⟨⟨xg.1.Rest⟩⟩]⟩)]) (ra_cons rfl ra_nil) (r19_eq hy) rfl rfl rfl rfl) ?_
  conv => whnf
  all_goals (cases h)
  all_goals exact rfl
theorem ok23 (R09_Get : (List UInt8) → Option (quic_Head × Int)) (R09_Put : quic_Head → Option ((List UInt8) × Int)) (hS : SumsOK Try.prog (aget (sums23 R09_Get R09_Put))) : SumOK Try.prog 23 (s23 (R09_WithF R09_Get R09_Put)) := by
  refine SumOK.of_leads tab_ok (fun ar r ha hr => ?_) ⟨Try.f23, rfl, by decide, rfl⟩
  simp only [s23] at ha hr
  unfold r23 at hr
  split at hr <;> try (cases hr; done)
  split at hr <;> cases hr
  rename_i x h
  refine ⟨_, rfl, (leads23 R09_Get R09_Put hS _ _ x h).mono fun v H t hp => ?_⟩
  cases hp
  exact Res.val rfl trivial
def R09_With : (List UInt8) → (List UInt8) → Option ((List UInt8) × Int) := R09_WithF R09_Get R09_Put
theorem lift23 : SumOK Try.prog 23 (s23 R09_With) := ok23 R09_Get R09_Put (SumsOK.of_tab ⟨lift21, lift19, trivial⟩)
end Go.Vm.Code

/- quic's heads, in plain words. -/
namespace Go.Vm.Code
open Go Go.Vm
def HOK (h : quic_Head) : Prop := (0 ≤ h.Bits ∧ h.Bits < 64) ∧ if h.Long = true then h.DCID.length ≤ 20 ∧ h.SCID.length ≤ 20 else h.DCID.length = 8 ∧ h.SCID = [] ∧ h.Version = 0
instance (h : quic_Head) : Decidable (HOK h) := by unfold HOK; exact inferInstance
def bytesQ (h : quic_Head) : List UInt8 := if h.Long = true then be (192 + h.Bits.toNat) 1 ++ be h.Version.toNat 4 ++ (be h.DCID.length 1 ++ h.DCID) ++ (be h.SCID.length 1 ++ h.SCID) ++ h.Rest else be (64 + h.Bits.toNat) 1 ++ h.DCID ++ h.Rest
def putQ (h : quic_Head) : List UInt8 × Int := if HOK h then (bytesQ h, 0) else ([], 1)
theorem ior_head : ∀ b : Fin 64, iorI .i64 192 ((b.val : Nat) : Int) = ((192 + b.val : Nat) : Int) ∧ iorI .i64 64 ((b.val : Nat) : Int) = ((64 + b.val : Nat) : Int) := by decide +kernel
theorem may_eq (h : quic_Head) : quic_Head_may h = some (decide (HOK h)) := by
  unfold quic_Head_may quic_Head_mayF
  by_cases h1 : h.Bits < 0
  · rw [cond_p h1, decide_eq_false (p := HOK h) (fun q => by have := q.1.1; omega)]
  by_cases h2 : h.Bits ≥ 64
  · rw [cond_n h1, cond_p h2, decide_eq_false (p := HOK h) (fun q => by have := q.1.2; omega)]
  rw [cond_n h1, cond_n h2]
  cases hl : h.Long with
  | true =>
    rw [cond_true]
    simp only []
    congr 1
    rw [decide_eq_decide]
    unfold HOK
    rw [if_pos hl]
    split <;> constructor <;> intro q <;> omega
  | false =>
    have nl : ¬ h.Long = true := by rw [hl]; simp
    rw [cond_false]
    by_cases h3 : h.DCID.length = 8
    · have : (((h.DCID.length : Nat) : Int) == 8) = true := by rw [beq_iff_eq]; omega
      rw [this, cond_true]
      by_cases h4 : h.SCID = []
      · have : (h.SCID == []) = true := by rw [beq_iff_eq]; exact h4
        rw [this, cond_true]
        congr 1
        rw [Bool.eq_iff_iff, beq_iff_eq, decide_eq_true_eq]
        unfold HOK
        rw [if_neg nl]
        exact ⟨fun q => ⟨by omega, h3, h4, q⟩, fun q => q.2.2.2⟩
      · have : (h.SCID == []) = false := by rw [beq_eq_false_iff_ne]; exact h4
        rw [this, cond_false, decide_eq_false (p := HOK h) (fun q => by have := q.2; rw [if_neg nl] at this; exact h4 this.2.1)]
    · have : (((h.DCID.length : Nat) : Int) == 8) = false := by rw [beq_eq_false_iff_ne]; omega
      rw [this, cond_false, decide_eq_false (p := HOK h) (fun q => by have := q.2; rw [if_neg nl] at this; exact h3 this.1)]
theorem counted_eq {s : List UInt8} (h : s.length ≤ 20) : quic_counted s = some (be s.length 1 ++ s) := by
  unfold quic_counted quic_countedF
  rw [wU64 (by omega) (by omega), octet_Put_eq (by omega), Option.bind_some]
  unfold putS
  rw [if_pos (by omega), show (1 : Int).toNat = 1 from rfl, Int.toNat_natCast]
  rw [oreq_p (by simp; omega)]
theorem qput_eq {h : quic_Head} (hv : 0 ≤ h.Version ∧ h.Version < 2 ^ 32) (hr : h.Rest.length < 2 ^ 38) : quic_Put h = some (putQ h) := by
  unfold quic_Put quic_PutF putQ
  rw [may_eq, Option.bind_some]
  by_cases hk : HOK h
  · rw [decide_eq_true hk, Bool.not_true, cond_false, if_pos hk]
    obtain ⟨⟨b0, b1'⟩, hk⟩ := hk
    obtain ⟨b, hb⟩ := Int.eq_ofNat_of_zero_le b0
    have hi := ior_head ⟨b, by omega⟩
    simp only at hi
    obtain ⟨v, hvv⟩ := Int.eq_ofNat_of_zero_le hv.1
    rw [hb, hvv]
    unfold bytesQ
    cases hl : h.Long with
    | true =>
      rw [hl] at hk
      simp only [if_true] at hk ⊢
      rw [cond_true, hi.1, wU64 (by omega) (by omega), wU64 (by omega) (by omega), octet_Put_eq (by omega), Option.bind_some, octet_Put_eq (by omega), Option.bind_some]
      unfold putS
      rw [if_pos (by omega), if_pos (by omega)]
      rw [oreq_p (by simp), counted_eq hk.1, Option.bind_some, oreq_p (by simp; omega), counted_eq hk.2, Option.bind_some, oreq_p (by simp; omega), oreq_p (by simp; omega), hb, hvv]
      simp only [Int.toNat_natCast, show (1 : Int).toNat = 1 from rfl, show (4 : Int).toNat = 4 from rfl]
    | false =>
      rw [hl] at hk
      simp only [Bool.false_eq_true, if_false] at hk ⊢
      rw [cond_false, hi.2, wU64 (by omega) (by omega), octet_Put_eq (by omega), Option.bind_some]
      unfold putS
      rw [if_pos (by omega), oreq_p (by simp; omega), oreq_p (by simp; omega), hb]
      simp only [Int.toNat_natCast, show (1 : Int).toNat = 1 from rfl]
  · rw [decide_eq_false hk, Bool.not_false, cond_true, if_neg hk]
theorem rputQ_eq {h : quic_Head} (hv : 0 ≤ h.Version ∧ h.Version < 2 ^ 32) (hr : h.Rest.length < 2 ^ 38) : R09_Put h = some (putQ h) := by
  unfold R09_Put R09_PutF putQ
  by_cases h1 : h.Bits < 0
  · rw [cond_p h1, if_neg (fun q => by have := q.1.1; omega)]
  by_cases h2 : h.Bits > 63
  · rw [cond_n h1, cond_p h2, if_neg (fun q => by have := q.1.2; omega)]
  rw [cond_n h1, cond_n h2]
  obtain ⟨b, hb⟩ := Int.eq_ofNat_of_zero_le (show 0 ≤ h.Bits by omega)
  obtain ⟨v, hvv⟩ := Int.eq_ofNat_of_zero_le hv.1
  cases hl : h.Long with
  | true =>
    rw [cond_true]
    by_cases h3 : (h.DCID.length : Int) > 20
    · rw [cond_p h3, if_neg (fun q => by have := q.2; rw [if_pos hl] at this; omega)]
    by_cases h4 : (h.SCID.length : Int) > 20
    · rw [cond_n h3, cond_p h4, if_neg (fun q => by have := q.2; rw [if_pos hl] at this; omega)]
    have hk : HOK h := ⟨by omega, by rw [if_pos hl]; omega⟩
    rw [cond_n h3, cond_n h4, if_pos hk]
    unfold bytesQ
    rw [if_pos hl, hb, hvv, wI64 (by omega) (by omega), wU64 (by omega) (by omega), wU64 (by omega) (by omega), wU64 (by omega) (by omega), wU64 (by omega) (by omega), R02_Put_eq (by omega) (by omega), Option.bind_some, R02_Put_eq (by omega) (by omega), Option.bind_some]
    unfold putS
    rw [if_pos (by omega), if_pos (by omega)]
    rw [oreq_p (by simp), R02_Put_eq (by omega) (by omega), Option.bind_some]
    unfold putS
    rw [if_pos (by omega), oreq_p (by simp), oreq_p (by simp; omega), R02_Put_eq (by omega) (by omega), Option.bind_some]
    unfold putS
    rw [if_pos (by omega), oreq_p (by simp; omega), oreq_p (by simp; omega), oreq_p (by simp; omega)]
    have e : ((192 : Int) + (b : Int)).toNat = 192 + b := by omega
    simp only [Int.toNat_natCast, show (1 : Int).toNat = 1 from rfl, show (4 : Int).toNat = 4 from rfl, e, List.append_assoc]
  | false =>
    rw [cond_false]
    have nl : ¬ h.Long = true := by rw [hl]; simp
    by_cases h3 : h.DCID.length = 8
    · have : (((h.DCID.length : Nat) : Int) != 8) = false := by rw [bne_eq_false_iff_eq]; omega
      rw [this, cond_false]
      by_cases h4 : h.SCID = []
      · have : (h.SCID == []) = true := by rw [beq_iff_eq]; exact h4
        rw [this, Bool.not_true, cond_false]
        by_cases h5 : h.Version = 0
        · have : (h.Version != 0) = false := by rw [bne_eq_false_iff_eq]; exact h5
          have hk : HOK h := ⟨by omega, by rw [if_neg nl]; exact ⟨h3, h4, h5⟩⟩
          rw [this, cond_false, if_pos hk]
          unfold bytesQ
          rw [if_neg nl, hb, wI64 (by omega) (by omega), wU64 (by omega) (by omega), R02_Put_eq (by omega) (by omega), Option.bind_some]
          unfold putS
          rw [if_pos (by omega), oreq_p (by simp; omega), oreq_p (by simp; omega)]
          have e : ((64 : Int) + (b : Int)).toNat = 64 + b := by omega
          simp only [Int.toNat_natCast, show (1 : Int).toNat = 1 from rfl, e]
        · have : (h.Version != 0) = true := by rw [bne_iff_ne]; exact h5
          rw [this, cond_true, if_neg (fun q => by have := q.2; rw [if_neg nl] at this; exact h5 this.2.2)]
      · have : (h.SCID == []) = false := by rw [beq_eq_false_iff_ne]; exact h4
        rw [this, Bool.not_false, cond_true, if_neg (fun q => by have := q.2; rw [if_neg nl] at this; exact h4 this.2.1)]
    · have : (((h.DCID.length : Nat) : Int) != 8) = true := by rw [bne_iff_ne]; omega
      rw [this, cond_true, if_neg (fun q => by have := q.2; rw [if_neg nl] at this; exact h3 this.1)]
end Go.Vm.Code

/- quic's heads read, in plain words. -/
namespace Go.Vm.Code
open Go Go.Vm
def zeroQ : quic_Head := ⟨false, 0, 0, [], [], []⟩
def idS (s : List UInt8) (p : Nat) : List UInt8 × Int × Nat :=
  if s.length ≤ p then ([], 2, 0) else if 20 < b1 s p then ([], 3, 0) else if s.length < p + 1 + b1 s p then ([], 2, 0) else ((s.drop (p + 1)).take (b1 s p), 0, p + 1 + b1 s p)
theorem rid_eq {s : List UInt8} {p : Nat} (h : s.length < 2 ^ 38) : R09_id s (p : Int) = some ((idS s p).1, (idS s p).2.1, (((idS s p).2.2 : Nat) : Int)) := by
  unfold R09_id R09_idF idS
  by_cases h1 : s.length ≤ p
  · rw [cond_p (by omega), if_pos h1]; rfl
  have e1 : s[(p : Int).toNat]? = some (s[p]'(by omega)) := by rw [Int.toNat_natCast]; exact List.getElem?_eq_getElem (by omega)
  have hb := b1_lt s p
  rw [cond_n (by omega), if_neg h1, oreq_p (by omega), e1, Option.bind_some, ← b1_get (by omega), wI64 (n := ((b1 s p : Nat) : Int)) (by omega) (by omega)]
  by_cases h2 : 20 < b1 s p
  · rw [cond_p (by omega), if_pos h2]; rfl
  rw [cond_n (by omega), if_neg h2, wI64 (n := (s.length : Int) - p) (by omega) (by omega), wI64 (by omega) (by omega), wI64 (n := (p : Int) + 1) (by omega) (by omega), wI64 (n := (p : Int) + 1 + ((b1 s p : Nat) : Int)) (by omega) (by omega)]
  simp only []
  by_cases h3 : s.length < p + 1 + b1 s p
  · rw [cond_p (by omega), if_pos h3]; rfl
  rw [cond_n (by omega), if_neg h3, oreq_p (by omega)]
  have f1 : ((p : Int) + 1).toNat = p + 1 := by omega
  have f2 : ((p : Int) + 1 + ((b1 s p : Nat) : Int)).toNat - (p + 1) = b1 s p := by omega
  rw [f1, f2]
  simp
theorem i17 : (if (1 : Int) < 1 ∨ (1 : Int) > 7 then -1 else 1 : Int) = 1 := by decide
theorem i47 : (if (4 : Int) < 1 ∨ (4 : Int) > 7 then -1 else 4 : Int) = 4 := by decide
theorem rdr_bad_k (s : List UInt8) (k : Int) : rdr ⟨s, true, true⟩ k = ⟨s, true, true⟩ := by unfold rdr; rw [if_pos (.inl rfl)]
theorem qid_bad (s : List UInt8) (h : s.length < 2 ^ 38) : quic_id ⟨s, true, true⟩ = some ([], 2, ⟨s, true, true⟩) := by
  unfold quic_id quic_idF
  rw [rNum_eq rfl (by simp only []; omega), Option.bind_some]
  simp only [rdr_bad_k]
  rw [rBad_eq rfl, Option.bind_some]
  simp only [Bool.not_true, cond_false]
  rw [rText_eq rfl, Option.bind_some]
  simp only [rdr_bad_k]
  rw [rBad_eq rfl, Option.bind_some]
  rfl
theorem qid_eq {s : List UInt8} {p : Nat} (h : s.length < 2 ^ 38) : ∃ r, quic_id ⟨s.drop p, true, false⟩ = some ((idS s p).1, (idS s p).2.1, r) ∧ ((idS s p).2.1 = 0 → r = ⟨s.drop (idS s p).2.2, true, false⟩) := by
  have hb := b1_lt s p
  have ld : (s.drop p).length = s.length - p := List.length_drop ..
  unfold quic_id quic_idF idS
  rw [rNum_eq rfl (by simp only []; omega), Option.bind_some]
  simp only [rdn, i17]
  by_cases h1 : s.length ≤ p
  · have hr : rdr ⟨s.drop p, true, false⟩ 1 = ⟨s.drop p, true, true⟩ := by unfold rdr; rw [if_pos (.inr (.inr (by simp only []; omega)))]
    rw [if_pos h1, hr, rBad_eq rfl, Option.bind_some]
    simp only [Bool.not_true, cond_false]
    rw [rText_eq rfl, Option.bind_some]
    simp only [rdr_bad_k]
    rw [rBad_eq rfl, Option.bind_some]
    exact ⟨_, rfl, fun q => by cases q⟩
  · rw [if_neg h1, rdr_ok (by omega) (by omega), rdt_ok (by omega) (by omega), show (1 : Int).toNat = 1 from rfl, List.drop_drop, show valL ((s.drop p).take 1) = b1 s p from rfl, rBad_eq rfl, Option.bind_some]
    simp only [Bool.not_false, cond_true]
    have ld2 : (s.drop (p + 1)).length = s.length - (p + 1) := List.length_drop ..
    by_cases h2 : 20 < b1 s p
    · rw [cond_p (by omega), if_pos h2]
      exact ⟨_, rfl, fun q => by cases q⟩
    rw [cond_n (by omega), if_neg h2, rText_eq rfl, Option.bind_some]
    by_cases h3 : s.length < p + 1 + b1 s p
    · have hr : rdr ⟨s.drop (p + 1), true, false⟩ ((b1 s p : Nat) : Int) = ⟨s.drop (p + 1), true, true⟩ := by unfold rdr; rw [if_pos (.inr (.inr (by simp only []; omega)))]
      rw [if_pos h3, hr, rBad_eq rfl, Option.bind_some]
      exact ⟨_, rfl, fun q => by cases q⟩
    · rw [if_neg h3, rdr_ok (by omega) (by omega), rdt_ok (by omega) (by omega), rBad_eq rfl, Option.bind_some, Int.toNat_natCast, List.drop_drop]
      exact ⟨_, rfl, fun _ => rfl⟩
end Go.Vm.Code

/- quic's heads read whole, in plain words. -/
namespace Go.Vm.Code
open Go Go.Vm
def getQ (s : List UInt8) : quic_Head × Int :=
  if s = [] then (zeroQ, 2) else if b1 s 0 / 64 % 2 = 0 then (zeroQ, 3) else
  if b1 s 0 < 128 then if s.length < 9 then (zeroQ, 2) else (⟨false, ((b1 s 0 % 64 : Nat) : Int), 0, (s.drop 1).take 8, [], s.drop 9⟩, 0)
  else if s.length < 5 then (zeroQ, 2) else if (idS s 5).2.1 ≠ 0 then (zeroQ, (idS s 5).2.1) else if (idS s (idS s 5).2.2).2.1 ≠ 0 then (zeroQ, (idS s (idS s 5).2.2).2.1) else
  (⟨true, ((b1 s 0 % 64 : Nat) : Int), ((valL ((s.drop 1).take 4) : Nat) : Int), (idS s 5).1, (idS s (idS s 5).2.2).1, s.drop (idS s (idS s 5).2.2).2.2⟩, 0)
theorem bitsQ : ∀ v : Fin 256, ((wI .u8 (((v.val : Nat) : Int).tdiv 64)).tmod 2 = ((v.val / 64 % 2 : Nat) : Int) ∧ wI .i64 (((v.val : Nat) : Int).tmod 64) = ((v.val % 64 : Nat) : Int)) ∧ andI .i64 ((v.val : Nat) : Int) 64 = ((v.val / 64 % 2 * 64 : Nat) : Int) ∧ andI .i64 ((v.val : Nat) : Int) 128 = ((v.val / 128 * 128 : Nat) : Int) ∧ andI .i64 ((v.val : Nat) : Int) 63 = ((v.val % 64 : Nat) : Int) := by decide +kernel
theorem idS_le {s : List UInt8} {p : Nat} (h : (idS s p).2.1 = 0) : (idS s p).2.2 ≤ s.length := by
  unfold idS at h ⊢
  split
  · simp
  split
  · simp
  split
  · simp
  · simp only []; omega
theorem rgetQ_eq {s : List UInt8} (h : s.length < 2 ^ 38) : R09_Get s = some (getQ s) := by
  unfold R09_Get R09_GetF getQ
  by_cases h0 : s = []
  · subst h0; rfl
  have hl : 0 < s.length := List.length_pos_iff.2 h0
  have hb := b1_lt s 0
  obtain ⟨⟨q1, q2⟩, -⟩ := bitsQ ⟨b1 s 0, hb⟩
  simp only at q1 q2
  have e0 : s[0]? = some s[0] := List.getElem?_eq_getElem hl
  have e1 : s[0].toNat = b1 s 0 := (b1_get hl).symm
  have es : (s == []) = false := by rw [beq_eq_false_iff_ne]; exact h0
  rw [es, cond_false, if_neg h0, e0]
  simp only [Option.bind_some, e1, q1, q2]
  by_cases h1 : b1 s 0 / 64 % 2 = 0
  · have : ((((b1 s 0 / 64 % 2 : Nat) : Int)) == 0) = true := by rw [beq_iff_eq]; omega
    rw [this, cond_true, if_pos h1]; rfl
  have : ((((b1 s 0 / 64 % 2 : Nat) : Int)) == 0) = false := by rw [beq_eq_false_iff_ne]; omega
  rw [this, cond_false, if_neg h1]
  by_cases h2 : b1 s 0 < 128
  · rw [decide_eq_false (show ¬ ((b1 s 0 : Nat) : Int) ≥ 128 by omega), Bool.not_false, cond_true, if_pos h2]
    by_cases h3 : s.length < 9
    · rw [cond_p (by omega), if_pos h3]; rfl
    rw [cond_n (by omega), if_neg h3, oreq_p (by omega), oreq_p (by omega), List.take_of_length_le (l := s.drop 9) (by simp)]
  · rw [decide_eq_true (show ((b1 s 0 : Nat) : Int) ≥ 128 by omega), Bool.not_true, cond_false, if_neg h2]
    by_cases h3 : s.length < 5
    · rw [cond_p (by omega), if_pos h3]; rfl
    have hv : valL ((s.drop 1).take 4) < 2 ^ 32 := val_take_lt _ (by decide)
    have rid5 := rid_eq (s := s) (p := 5) h
    rw [show ((5 : Nat) : Int) = 5 from rfl] at rid5
    rw [cond_n (by omega), if_neg h3, R02_Must_eq (by omega), Option.bind_some, getS_at (by omega) (by omega) (by omega) (by omega), rid5, Option.bind_some]
    simp only []
    by_cases h4 : (idS s 5).2.1 = 0
    · have : ((idS s 5).2.1 != 0) = false := by rw [bne_eq_false_iff_eq]; exact h4
      rw [this, cond_false, if_neg (by omega), rid_eq h, Option.bind_some]
      simp only []
      by_cases h5 : (idS s (idS s 5).2.2).2.1 = 0
      · have : ((idS s (idS s 5).2.2).2.1 != 0) = false := by rw [bne_eq_false_iff_eq]; exact h5
        have hle := idS_le h5
        rw [this, cond_false, if_neg (by omega), oreq_p (by omega), Int.toNat_natCast, List.take_of_length_le (l := s.drop (idS s (idS s 5).2.2).2.2) (by simp)]
        simp only [show (1 : Int).toNat = 1 from rfl, show (4 : Int).toNat = 4 from rfl]
        rw [wI64 (n := ((valL ((s.drop 1).take 4) : Nat) : Int)) (by omega) (by omega), wU32 (by omega) (by omega)]
      · have : ((idS s (idS s 5).2.2).2.1 != 0) = true := by rw [bne_iff_ne]; exact h5
        rw [this, cond_true, if_pos h5]; rfl
    · have : ((idS s 5).2.1 != 0) = true := by rw [bne_iff_ne]; exact h4
      rw [this, cond_true, if_pos h4]; rfl
theorem rest_eq {r : octet_Reader} (h : r.made = true) (hb : r.bad = false) : octet_Reader_Rest r = some (r.s, rdr r r.s.length) := by
  unfold octet_Reader_Rest octet_Reader_RestF
  rw [rBad_eq h, Option.bind_some]
  simp only [hb, cond_false]
  rw [rText_eq h, Option.bind_some]
  have : rdt r r.s.length = r.s := by unfold rdt; rw [if_neg (by rw [hb]; simp), Int.toNat_natCast, List.take_length]
  rw [this]
theorem qgetQ_eq {s : List UInt8} (h : s.length < 2 ^ 38) : quic_Get s = some (getQ s) := by
  unfold quic_Get quic_GetF getQ
  by_cases h0 : s = []
  · subst h0; decide +kernel
  have hl : 0 < s.length := List.length_pos_iff.2 h0
  have hb := b1_lt s 0
  obtain ⟨-, q1, q2, q3⟩ := bitsQ ⟨b1 s 0, hb⟩
  simp only at q1 q2 q3
  have l1 : (s.drop 1).length = s.length - 1 := List.length_drop ..
  rw [if_neg h0, rNew_eq, Option.bind_some, rNum_eq rfl (by simp only []; omega), Option.bind_some]
  simp only [rdn, i17]
  rw [rdr_ok (by omega) (by omega), rdt_ok (by omega) (by omega), show (1 : Int).toNat = 1 from rfl, rBad_eq rfl, Option.bind_some, show valL (s.take 1) = b1 s 0 from rfl, q1, q2, q3]
  simp only [cond_false]
  by_cases h1 : b1 s 0 / 64 % 2 = 0
  · have : ((((b1 s 0 / 64 % 2 * 64 : Nat) : Int)) == 0) = true := by rw [beq_iff_eq]; omega
    rw [this, cond_true, if_pos h1]; rfl
  have : ((((b1 s 0 / 64 % 2 * 64 : Nat) : Int)) == 0) = false := by rw [beq_eq_false_iff_ne]; omega
  rw [this, cond_false, if_neg h1]
  by_cases h2 : b1 s 0 < 128
  · have : ((((b1 s 0 / 128 * 128 : Nat) : Int)) != 0) = false := by rw [bne_eq_false_iff_eq]; omega
    rw [this, Bool.not_false, cond_true, if_pos h2, rText_eq rfl, Option.bind_some]
    by_cases h3 : s.length < 9
    · have hr : rdr ⟨s.drop 1, true, false⟩ 8 = ⟨s.drop 1, true, true⟩ := by unfold rdr; rw [if_pos (.inr (.inr (by simp only []; omega)))]
      rw [if_pos h3, hr, rBad_eq rfl, Option.bind_some]; rfl
    · rw [if_neg h3, rdr_ok (by omega) (by omega), rdt_ok (by omega) (by omega), rBad_eq rfl, Option.bind_some]
      simp only [cond_false]
      rw [rest_eq rfl rfl, Option.bind_some, List.drop_drop]
      rfl
  · have : ((((b1 s 0 / 128 * 128 : Nat) : Int)) != 0) = true := by rw [bne_iff_ne]; omega
    rw [this, Bool.not_true, cond_false, if_neg h2, rNum_eq rfl (by simp only []; omega), Option.bind_some]
    simp only [rdn, i47]
    by_cases h3 : s.length < 5
    · have hr : rdr ⟨s.drop 1, true, false⟩ 4 = ⟨s.drop 1, true, true⟩ := by unfold rdr; rw [if_pos (.inr (.inr (by simp only []; omega)))]
      rw [if_pos h3, hr, qid_bad _ (by omega), Option.bind_some]; rfl
    have hv : valL ((s.drop 1).take 4) < 2 ^ 32 := val_take_lt _ (by decide)
    obtain ⟨r, er, hr⟩ := qid_eq (s := s) (p := 5) h
    rw [if_neg h3, rdr_ok (by omega) (by omega), rdt_ok (by omega) (by omega), show (4 : Int).toNat = 4 from rfl, List.drop_drop, er, Option.bind_some]
    simp only []
    by_cases h4 : (idS s 5).2.1 = 0
    · have : ((idS s 5).2.1 != 0) = false := by rw [bne_eq_false_iff_eq]; exact h4
      obtain ⟨r', er', hr'⟩ := qid_eq (s := s) (p := (idS s 5).2.2) h
      rw [this, cond_false, if_neg (by omega), hr h4, er', Option.bind_some]
      simp only []
      by_cases h5 : (idS s (idS s 5).2.2).2.1 = 0
      · have : ((idS s (idS s 5).2.2).2.1 != 0) = false := by rw [bne_eq_false_iff_eq]; exact h5
        rw [this, cond_false, if_neg (by omega), hr' h5, rest_eq rfl rfl, Option.bind_some, wU32 (by omega) (by omega)]
      · have : ((idS s (idS s 5).2.2).2.1 != 0) = true := by rw [bne_iff_ne]; exact h5
        rw [this, cond_true, if_pos h5]; rfl
    · have : ((idS s 5).2.1 != 0) = true := by rw [bne_iff_ne]; exact h4
      rw [this, cond_true, if_pos h4]; rfl
end Go.Vm.Code

namespace Go.Vm.Code
open Go Go.Vm Go.Proofs
set_option maxRecDepth 100000
set_option maxHeartbeats 4000000
set_option linter.unusedVariables false

/-! cloakroom/cloakroomlaw09.awake -/
def law09_awakeF (quic_Get : (List UInt8) → Option (quic_Head × Int)) : Option Bool :=
  (quic_Get [64, 97, 98, 99, 100, 101, 102, 103, 104]).bind fun xg =>
  (quic_Get [97]).bind fun xg1 =>
  (quic_Get [63]).bind fun xg2 =>
  cond (xg.2 == 0)
    (
    let t := xg.1.DCID == [97, 98, 99, 100, 101, 102, 103, 104]
    cond (t)
      (
      cond (!xg.1.Long)
        (
        cond (xg1.2 == 2)
          (
          cond (xg2.2 == 3)
            (
            some (true))
            (
            some (false)))
          (
          some (false)))
        (
        some (false)))
      (
      some (false)))
    (
    some (false))
def post16 (x : Bool) (v : Value) (H : Hp) : Prop := v = .bool x
def r16 (g : Option Bool) : List SArg → Option SRes
  | [] => match g  with | some x => some ⟨.bool x, [], []⟩ | none => none
  | _ => none
def s16 (g : Option Bool) : Summ := ⟨[], r16 g⟩
theorem r16_eq {g : Option Bool} {x : Bool} (hx : g  = some x) : (s16 g).run [] = some ⟨.bool x, [], []⟩ := by
  show r16 g [] = _
  simp only [r16, hx]
abbrev sums16 (quic_Get : (List UInt8) → Option (quic_Head × Int)) : List (Nat × Summ) := [(20, s20 quic_Get)]
theorem leads16 (quic_Get : (List UInt8) → Option (quic_Head × Int)) (hS : SumsOK Try.prog (aget (sums16 quic_Get))) (res : Bool) (h : law09_awakeF quic_Get = some res) :
    Leads Try.prog 16 0 ⟨⟨16, 41, [], [.code k16_9], [], false, none⟩, [], [], 0⟩ (fun v H _ => post16 res v H) := by
  unfold law09_awakeF at h
  refine ev_ok tab_ok hS true 3000 ?_
  conv => whnf
  obtain ⟨xg, hy, h2⟩ := obind.elim h; clear h; have h := h2; clear h2
  refine sumK.introF [] (sumRun_of (aqs := [.v (.string ⟨⟨[64, 97, 98, 99, 100, 101, 102, 103, 104]⟩⟩)]) (ra_cons rfl ra_nil) (r20_eq hy) rfl rfl rfl rfl) ?_
  conv => whnf
  obtain ⟨xg1, hy, h2⟩ := obind.elim h; clear h; have h := h2; clear h2
  refine sumK.introF [] (sumRun_of (aqs := [.v (.string ⟨⟨[97]⟩⟩)]) (ra_cons rfl ra_nil) (r20_eq hy) rfl rfl rfl rfl) ?_
  conv => whnf
  obtain ⟨xg2, hy, h2⟩ := obind.elim h; clear h; have h := h2; clear h2
  refine sumK.introF [] (sumRun_of (aqs := [.v (.string ⟨⟨[63]⟩⟩)]) (ra_cons rfl ra_nil) (r20_eq hy) rfl rfl rfl rfl) ?_
  conv => whnf
  refine br.h2 h ?_ ?_ ?_
  · rfl
  · clear h; intro hb h; conv => whnf
    all_goals (cases h)
    all_goals exact rfl
  clear h; intro hb h; conv => whnf
  let t : Bool := xg.1.DCID == [97, 98, 99, 100, 101, 102, 103, 104]
  refine br.h2 h ?_ ?_ ?_
  · rfl
  · clear h; intro hb h; conv => whnf
    all_goals (cases h)
    all_goals exact rfl
  clear h; intro hb h; conv => whnf
  refine br.h2 h ?_ ?_ ?_
  · rfl
  · clear h; intro hb h; conv => whnf
    all_goals (cases h)
    all_goals exact rfl
  clear h; intro hb h; conv => whnf
  refine br.h2 h ?_ ?_ ?_
  · rfl
  · clear h; intro hb h; conv => whnf
    all_goals (cases h)
    all_goals exact rfl
  clear h; intro hb h; conv => whnf
  refine br.h h ?_ ?_ ?_
  · rfl
  · clear h; intro hb h; conv => whnf
    all_goals (cases h)
    all_goals exact rfl
  clear h; intro hb h; conv => whnf
  all_goals (cases h)
  all_goals exact rfl
theorem ok16 (quic_Get : (List UInt8) → Option (quic_Head × Int)) (hS : SumsOK Try.prog (aget (sums16 quic_Get))) : SumOK Try.prog 16 (s16 (law09_awakeF quic_Get)) := by
  refine SumOK.of_leads tab_ok (fun ar r ha hr => ?_) ⟨Try.f16, rfl, by decide, rfl⟩
  simp only [s16] at ha hr
  unfold r16 at hr
  split at hr <;> try (cases hr; done)
  split at hr <;> cases hr
  rename_i x h
  refine ⟨_, rfl, (leads16 quic_Get hS x h).mono fun v H t hp => ?_⟩
  cases hp
  exact Res.val rfl trivial
def law09_awake : Option Bool := law09_awakeF quic_Get
theorem lift16 : SumOK Try.prog 16 (s16 law09_awake) := ok16 quic_Get (SumsOK.of_tab ⟨lift20, trivial⟩)
end Go.Vm.Code

namespace Go.Vm.Code
open Go Go.Vm Go.Proofs
set_option maxRecDepth 100000
set_option maxHeartbeats 4000000
set_option linter.unusedVariables false

/-! cloakroom/cloakroomlaw09.of -/
def law09_ofF (ha0 : quic_Head) : Option quic_Head :=
  some (ha0)
def post18 (x : quic_Head) (v : Value) (H : Hp) : Prop := v = .agg ⟨[.bool x.Long, .int .i64 x.Bits, .int .u32 x.Version, .string ⟨⟨x.DCID⟩⟩, .string ⟨⟨x.SCID⟩⟩, .string ⟨⟨x.Rest⟩⟩]⟩
def r18 (g : quic_Head → Option quic_Head) : List SArg → Option SRes
  | [.v (.agg ⟨[.bool a0_1, .int .i64 a0_2, .int .u32 a0_3, .string ⟨⟨a0_4⟩⟩, .string ⟨⟨a0_5⟩⟩, .string ⟨⟨a0_6⟩⟩]⟩)] => match g (quic_Head.mk a0_1 a0_2 a0_3 a0_4 a0_5 a0_6) with | some x => some ⟨.agg ⟨[.bool x.Long, .int .i64 x.Bits, .int .u32 x.Version, .string ⟨⟨x.DCID⟩⟩, .string ⟨⟨x.SCID⟩⟩, .string ⟨⟨x.Rest⟩⟩]⟩, [], []⟩ | none => none
  | _ => none
def s18 (g : quic_Head → Option quic_Head) : Summ := ⟨[.v], r18 g⟩
theorem r18_eq {g : quic_Head → Option quic_Head} {a0_1 : Bool} {a0_2 : Int} {a0_3 : Int} {a0_4 : List UInt8} {a0_5 : List UInt8} {a0_6 : List UInt8} {x : quic_Head} (hx : g (quic_Head.mk a0_1 a0_2 a0_3 a0_4 a0_5 a0_6) = some x) : (s18 g).run [.v (.agg ⟨[.bool a0_1, .int .i64 a0_2, .int .u32 a0_3, .string ⟨⟨a0_4⟩⟩, .string ⟨⟨a0_5⟩⟩, .string ⟨⟨a0_6⟩⟩]⟩)] = some ⟨.agg ⟨[.bool x.Long, .int .i64 x.Bits, .int .u32 x.Version, .string ⟨⟨x.DCID⟩⟩, .string ⟨⟨x.SCID⟩⟩, .string ⟨⟨x.Rest⟩⟩]⟩, [], []⟩ := by
  show r18 g [.v (.agg ⟨[.bool a0_1, .int .i64 a0_2, .int .u32 a0_3, .string ⟨⟨a0_4⟩⟩, .string ⟨⟨a0_5⟩⟩, .string ⟨⟨a0_6⟩⟩]⟩)] = _
  simp only [r18, hx]
abbrev sums18 : List (Nat × Summ) := []
theorem leads18 (hS : SumsOK Try.prog (aget (sums18))) (ha0 : quic_Head) (res : quic_Head) (h : law09_ofF ha0 = some res) :
    Leads Try.prog 18 0 ⟨⟨18, 16, [(0, .agg ⟨[.bool ha0.Long, .int .i64 ha0.Bits, .int .u32 ha0.Version, .string ⟨⟨ha0.DCID⟩⟩, .string ⟨⟨ha0.SCID⟩⟩, .string ⟨⟨ha0.Rest⟩⟩]⟩)], [.code k18_3], [], false, none⟩, [], [], 0⟩ (fun v H _ => post18 res v H) := by
  unfold law09_ofF at h
  refine ev_ok tab_ok hS true 3000 ?_
  conv => whnf
  all_goals (cases h)
  all_goals exact rfl
theorem ok18 (hS : SumsOK Try.prog (aget (sums18))) : SumOK Try.prog 18 (s18 (law09_ofF)) := by
  refine SumOK.of_leads tab_ok (fun ar r ha hr => ?_) ⟨Try.f18, rfl, by decide, rfl⟩
  simp only [s18] at ha hr
  unfold r18 at hr
  split at hr <;> try (cases hr; done)
  split at hr <;> cases hr
  rename_i x h
  refine ⟨_, rfl, (leads18 hS _ x h).mono fun v H t hp => ?_⟩
  cases hp
  exact Res.val rfl trivial
def law09_of : quic_Head → Option quic_Head := law09_ofF
theorem lift18 : SumOK Try.prog 18 (s18 law09_of) := ok18 (SumsOK.of_tab trivial)
end Go.Vm.Code

namespace Go.Vm.Code
open Go Go.Vm Go.Proofs
set_option maxRecDepth 100000
set_option maxHeartbeats 4000000
set_option linter.unusedVariables false

/-! cloakroom/cloakroomlaw09.back -/
def law09_backF (ha0 : quic_Head) : Option quic_Head :=
  some (ha0)
def post24 (x : quic_Head) (v : Value) (H : Hp) : Prop := v = .agg ⟨[.bool x.Long, .int .i64 x.Bits, .int .u32 x.Version, .string ⟨⟨x.DCID⟩⟩, .string ⟨⟨x.SCID⟩⟩, .string ⟨⟨x.Rest⟩⟩]⟩
def r24 (g : quic_Head → Option quic_Head) : List SArg → Option SRes
  | [.v (.agg ⟨[.bool a0_1, .int .i64 a0_2, .int .u32 a0_3, .string ⟨⟨a0_4⟩⟩, .string ⟨⟨a0_5⟩⟩, .string ⟨⟨a0_6⟩⟩]⟩)] => match g (quic_Head.mk a0_1 a0_2 a0_3 a0_4 a0_5 a0_6) with | some x => some ⟨.agg ⟨[.bool x.Long, .int .i64 x.Bits, .int .u32 x.Version, .string ⟨⟨x.DCID⟩⟩, .string ⟨⟨x.SCID⟩⟩, .string ⟨⟨x.Rest⟩⟩]⟩, [], []⟩ | none => none
  | _ => none
def s24 (g : quic_Head → Option quic_Head) : Summ := ⟨[.v], r24 g⟩
theorem r24_eq {g : quic_Head → Option quic_Head} {a0_1 : Bool} {a0_2 : Int} {a0_3 : Int} {a0_4 : List UInt8} {a0_5 : List UInt8} {a0_6 : List UInt8} {x : quic_Head} (hx : g (quic_Head.mk a0_1 a0_2 a0_3 a0_4 a0_5 a0_6) = some x) : (s24 g).run [.v (.agg ⟨[.bool a0_1, .int .i64 a0_2, .int .u32 a0_3, .string ⟨⟨a0_4⟩⟩, .string ⟨⟨a0_5⟩⟩, .string ⟨⟨a0_6⟩⟩]⟩)] = some ⟨.agg ⟨[.bool x.Long, .int .i64 x.Bits, .int .u32 x.Version, .string ⟨⟨x.DCID⟩⟩, .string ⟨⟨x.SCID⟩⟩, .string ⟨⟨x.Rest⟩⟩]⟩, [], []⟩ := by
  show r24 g [.v (.agg ⟨[.bool a0_1, .int .i64 a0_2, .int .u32 a0_3, .string ⟨⟨a0_4⟩⟩, .string ⟨⟨a0_5⟩⟩, .string ⟨⟨a0_6⟩⟩]⟩)] = _
  simp only [r24, hx]
abbrev sums24 : List (Nat × Summ) := []
theorem leads24 (hS : SumsOK Try.prog (aget (sums24))) (ha0 : quic_Head) (res : quic_Head) (h : law09_backF ha0 = some res) :
    Leads Try.prog 24 0 ⟨⟨24, 16, [(0, .agg ⟨[.bool ha0.Long, .int .i64 ha0.Bits, .int .u32 ha0.Version, .string ⟨⟨ha0.DCID⟩⟩, .string ⟨⟨ha0.SCID⟩⟩, .string ⟨⟨ha0.Rest⟩⟩]⟩)], [.code k24_3], [], false, none⟩, [], [], 0⟩ (fun v H _ => post24 res v H) := by
  unfold law09_backF at h
  refine ev_ok tab_ok hS true 3000 ?_
  conv => whnf
  all_goals (cases h)
  all_goals exact rfl
theorem ok24 (hS : SumsOK Try.prog (aget (sums24))) : SumOK Try.prog 24 (s24 (law09_backF)) := by
  refine SumOK.of_leads tab_ok (fun ar r ha hr => ?_) ⟨Try.f24, rfl, by decide, rfl⟩
  simp only [s24] at ha hr
  unfold r24 at hr
  split at hr <;> try (cases hr; done)
  split at hr <;> cases hr
  rename_i x h
  refine ⟨_, rfl, (leads24 hS _ x h).mono fun v H t hp => ?_⟩
  cases hp
  exact Res.val rfl trivial
def law09_back : quic_Head → Option quic_Head := law09_backF
theorem lift24 : SumOK Try.prog 24 (s24 law09_back) := ok24 (SumsOK.of_tab trivial)
end Go.Vm.Code

namespace Go.Vm.Code
open Go Go.Vm Go.Proofs
set_option maxRecDepth 100000
set_option maxHeartbeats 4000000
set_option linter.unusedVariables false

/-! cloakroom/cloakroomlaw09.QuicTells -/
def law09_QuicTellsF (R07_Small : (List (List UInt8)) → Int → Option Bool) (R09_Get : (List UInt8) → Option (quic_Head × Int)) (R09_Put : quic_Head → Option ((List UInt8) × Int)) (R09_With : (List UInt8) → (List UInt8) → Option ((List UInt8) × Int)) (law09_awake : Option Bool) (law09_back : quic_Head → Option quic_Head) (law09_of : quic_Head → Option quic_Head) (quic_Get : (List UInt8) → Option (quic_Head × Int)) (quic_Put : quic_Head → Option ((List UInt8) × Int)) (quic_With : (List UInt8) → (List UInt8) → Option ((List UInt8) × Int)) (ha0 : quic_Head) (s : List UInt8) (cid : List UInt8) : Option Bool :=
  (R07_Small [ha0.DCID, ha0.SCID, ha0.Rest, cid] 60).bind fun s1 =>
  cond (!s1)
    (
    (law09_awake).bind fun a =>
    some (a))
    (
    cond (decide ((s.length : Int) > 100))
      (
      (law09_awake).bind fun a1 =>
      some (a1))
      (
      (law09_of ha0).bind fun xo =>
      (quic_Put xo).bind fun p =>
      (R09_Put ha0).bind fun p1 =>
      (quic_Get s).bind fun xg =>
      (R09_Get s).bind fun xg1 =>
      (quic_With s cid).bind fun w =>
      (R09_With s cid).bind fun w1 =>
      cond (p.1 == p1.1)
        (
        cond (p.2 == p1.2)
          (
          (law09_back xg.1).bind fun b =>
          let t := (b.Long == xg1.1.Long) && ((b.Bits == xg1.1.Bits) && ((b.Version == xg1.1.Version) && ((b.DCID == xg1.1.DCID) && ((b.SCID == xg1.1.SCID) && ((b.Rest == xg1.1.Rest) && true)))))
          cond (t)
            (
            cond (xg.2 == xg1.2)
              (
              cond (w.1 == w1.1)
                (
                cond (w.2 == w1.2)
                  (
                  (law09_awake).bind fun a2 =>
                  some (a2))
                  (
                  some (false)))
                (
                some (false)))
              (
              some (false)))
            (
            some (false)))
          (
          some (false)))
        (
        some (false))))
def post3 (x : Bool) (v : Value) (H : Hp) : Prop := v = .bool x
def r3 (g : quic_Head → (List UInt8) → (List UInt8) → Option Bool) : List SArg → Option SRes
  | [.v (.agg ⟨[.bool a0_1, .int .i64 a0_2, .int .u32 a0_3, .string ⟨⟨a0_4⟩⟩, .string ⟨⟨a0_5⟩⟩, .string ⟨⟨a0_6⟩⟩]⟩), .v (.string ⟨⟨a1_1⟩⟩), .v (.string ⟨⟨a2_1⟩⟩)] => match g (quic_Head.mk a0_1 a0_2 a0_3 a0_4 a0_5 a0_6) a1_1 a2_1 with | some x => some ⟨.bool x, [], []⟩ | none => none
  | _ => none
def s3 (g : quic_Head → (List UInt8) → (List UInt8) → Option Bool) : Summ := ⟨[.v, .v, .v], r3 g⟩
theorem r3_eq {g : quic_Head → (List UInt8) → (List UInt8) → Option Bool} {a0_1 : Bool} {a0_2 : Int} {a0_3 : Int} {a0_4 : List UInt8} {a0_5 : List UInt8} {a0_6 : List UInt8} {a1_1 : List UInt8} {a2_1 : List UInt8} {x : Bool} (hx : g (quic_Head.mk a0_1 a0_2 a0_3 a0_4 a0_5 a0_6) a1_1 a2_1 = some x) : (s3 g).run [.v (.agg ⟨[.bool a0_1, .int .i64 a0_2, .int .u32 a0_3, .string ⟨⟨a0_4⟩⟩, .string ⟨⟨a0_5⟩⟩, .string ⟨⟨a0_6⟩⟩]⟩), .v (.string ⟨⟨a1_1⟩⟩), .v (.string ⟨⟨a2_1⟩⟩)] = some ⟨.bool x, [], []⟩ := by
  show r3 g [.v (.agg ⟨[.bool a0_1, .int .i64 a0_2, .int .u32 a0_3, .string ⟨⟨a0_4⟩⟩, .string ⟨⟨a0_5⟩⟩, .string ⟨⟨a0_6⟩⟩]⟩), .v (.string ⟨⟨a1_1⟩⟩), .v (.string ⟨⟨a2_1⟩⟩)] = _
  simp only [r3, hx]
abbrev sums3 (R07_Small : (List (List UInt8)) → Int → Option Bool) (R09_Get : (List UInt8) → Option (quic_Head × Int)) (R09_Put : quic_Head → Option ((List UInt8) × Int)) (R09_With : (List UInt8) → (List UInt8) → Option ((List UInt8) × Int)) (law09_awake : Option Bool) (law09_back : quic_Head → Option quic_Head) (law09_of : quic_Head → Option quic_Head) (quic_Get : (List UInt8) → Option (quic_Head × Int)) (quic_Put : quic_Head → Option ((List UInt8) × Int)) (quic_With : (List UInt8) → (List UInt8) → Option ((List UInt8) × Int)) : List (Nat × Summ) := [(15, s15 R07_Small), (21, s21 R09_Get), (19, s19 R09_Put), (23, s23 R09_With), (16, s16 law09_awake), (24, s24 law09_back), (18, s18 law09_of), (20, s20 quic_Get), (17, s17 quic_Put), (22, s22 quic_With)]
theorem leads3 (R07_Small : (List (List UInt8)) → Int → Option Bool) (R09_Get : (List UInt8) → Option (quic_Head × Int)) (R09_Put : quic_Head → Option ((List UInt8) × Int)) (R09_With : (List UInt8) → (List UInt8) → Option ((List UInt8) × Int)) (law09_awake : Option Bool) (law09_back : quic_Head → Option quic_Head) (law09_of : quic_Head → Option quic_Head) (quic_Get : (List UInt8) → Option (quic_Head × Int)) (quic_Put : quic_Head → Option ((List UInt8) × Int)) (quic_With : (List UInt8) → (List UInt8) → Option ((List UInt8) × Int)) (hS : SumsOK Try.prog (aget (sums3 R07_Small R09_Get R09_Put R09_With law09_awake law09_back law09_of quic_Get quic_Put quic_With))) (ha0 : quic_Head) (s : List UInt8) (cid : List UInt8) (res : Bool) (h : law09_QuicTellsF R07_Small R09_Get R09_Put R09_With law09_awake law09_back law09_of quic_Get quic_Put quic_With ha0 s cid = some res) :
    Leads Try.prog 3 0 ⟨⟨3, 100, [(0, .agg ⟨[.bool ha0.Long, .int .i64 ha0.Bits, .int .u32 ha0.Version, .string ⟨⟨ha0.DCID⟩⟩, .string ⟨⟨ha0.SCID⟩⟩, .string ⟨⟨ha0.Rest⟩⟩]⟩), (1, .string ⟨⟨s⟩⟩), (2, .string ⟨⟨cid⟩⟩)], [.code k3_21], [], false, none⟩, [], [], 0⟩ (fun v H _ => post3 res v H) := by
  unfold law09_QuicTellsF at h
  refine ev_ok tab_ok hS true 3000 ?_
  conv => whnf
  obtain ⟨s1, hy, h2⟩ := obind.elim h; clear h; have h := h2; clear h2
  refine sumK.introF [] (sumRun_of (aqs := [.sl ([ha0.DCID, ha0.SCID, ha0.Rest, cid] : List (List UInt8)).length (vS [ha0.DCID, ha0.SCID, ha0.Rest, cid]), .v (.int .i64 60)]) (ra_cons (by first | rfl | exact ra_allS rfl rfl (by first | rfl | omega) (by first | rfl | (simp; done)) | exact ra_slS rfl rfl (by first | rfl | omega) (by first | rfl | omega) (by first | omega | (simp at *; omega))) (ra_cons rfl ra_nil)) (r15_eq hy) rfl rfl rfl rfl) ?_
  conv => whnf
  refine br.h h ?_ ?_ ?_
  · rfl
  · clear h; intro hb h; conv => whnf
    obtain ⟨a, hy, h2⟩ := obind.elim h; clear h; have h := h2; clear h2
    refine sumK.introF [] (sumRun_of (aqs := []) ra_nil (r16_eq hy) rfl rfl rfl rfl) ?_
    conv => whnf
    all_goals (cases h)
    all_goals exact rfl
  clear h; intro hb h; conv => whnf
  refine br.h h ?_ ?_ ?_
  · rfl
  · clear h; intro hb h; conv => whnf
    obtain ⟨a1, hy, h2⟩ := obind.elim h; clear h; have h := h2; clear h2
    refine sumK.introF [] (sumRun_of (aqs := []) ra_nil (r16_eq hy) rfl rfl rfl rfl) ?_
    conv => whnf
    all_goals (cases h)
    all_goals exact rfl
  clear h; intro hb h; conv => whnf
  obtain ⟨xo, hy, h2⟩ := obind.elim h; clear h; have h := h2; clear h2
  refine sumK.introF [] (sumRun_of (aqs := [.v (.agg ⟨[.bool ha0.Long, .int .i64 ha0.Bits, .int .u32 ha0.Version, .string ⟨⟨ha0.DCID⟩⟩, .string ⟨⟨ha0.SCID⟩⟩, .string ⟨⟨ha0.Rest⟩⟩]⟩)]) (ra_cons rfl ra_nil) (r18_eq hy) rfl rfl rfl rfl) ?_
  conv => whnf
  obtain ⟨p, hy, h2⟩ := obind.elim h; clear h; have h := h2; clear h2
  refine sumK.introF [] (sumRun_of (aqs := [.v (.agg ⟨[.bool xo.Long, .int .i64 xo.Bits, .int .u32 xo.Version, .string ⟨⟨xo.DCID⟩⟩, .string ⟨⟨xo.SCID⟩⟩, .string ⟨⟨xo.Rest⟩⟩]⟩)]) (ra_cons rfl ra_nil) (r17_eq hy) rfl rfl rfl rfl) ?_
  conv => whnf
  obtain ⟨p1, hy, h2⟩ := obind.elim h; clear h; have h := h2; clear h2
  refine sumK.introF [] (sumRun_of (aqs := [.v (.agg ⟨[.bool ha0.Long, .int .i64 ha0.Bits, .int .u32 ha0.Version, .string ⟨⟨ha0.DCID⟩⟩, .string ⟨⟨ha0.SCID⟩⟩, .string ⟨⟨ha0.Rest⟩⟩]⟩)]) (ra_cons rfl ra_nil) (r19_eq hy) rfl rfl rfl rfl) ?_
  conv => whnf
  obtain ⟨xg, hy, h2⟩ := obind.elim h; clear h; have h := h2; clear h2
  refine sumK.introF [] (sumRun_of (aqs := [.v (.string ⟨⟨s⟩⟩)]) (ra_cons rfl ra_nil) (r20_eq hy) rfl rfl rfl rfl) ?_
  conv => whnf
  obtain ⟨xg1, hy, h2⟩ := obind.elim h; clear h; have h := h2; clear h2
  refine sumK.introF [] (sumRun_of (aqs := [.v (.string ⟨⟨s⟩⟩)]) (ra_cons rfl ra_nil) (r21_eq hy) rfl rfl rfl rfl) ?_
  conv => whnf
  obtain ⟨w, hy, h2⟩ := obind.elim h; clear h; have h := h2; clear h2
  refine sumK.introF [] (sumRun_of (aqs := [.v (.string ⟨⟨s⟩⟩), .v (.string ⟨⟨cid⟩⟩)]) (ra_cons rfl (ra_cons rfl ra_nil)) (r22_eq hy) rfl rfl rfl rfl) ?_
  conv => whnf
  obtain ⟨w1, hy, h2⟩ := obind.elim h; clear h; have h := h2; clear h2
  refine sumK.introF [] (sumRun_of (aqs := [.v (.string ⟨⟨s⟩⟩), .v (.string ⟨⟨cid⟩⟩)]) (ra_cons rfl (ra_cons rfl ra_nil)) (r23_eq hy) rfl rfl rfl rfl) ?_
  conv => whnf
  refine br.h2 h ?_ ?_ ?_
  · rfl
  · clear h; intro hb h; conv => whnf
    all_goals (cases h)
    all_goals exact rfl
  clear h; intro hb h; conv => whnf
  refine br.h2 h ?_ ?_ ?_
  · rfl
  · clear h; intro hb h; conv => whnf
    all_goals (cases h)
    all_goals exact rfl
  clear h; intro hb h; conv => whnf
  obtain ⟨b, hy, h2⟩ := obind.elim h; clear h; have h := h2; clear h2
  refine sumK.introF [] (sumRun_of (aqs := [.v (.agg ⟨[.bool xg.1.Long, .int .i64 xg.1.Bits, .int .u32 xg.1.Version, .string ⟨⟨xg.1.DCID⟩⟩, .string ⟨⟨xg.1.SCID⟩⟩, .string ⟨⟨xg.1.Rest⟩⟩]⟩)]) (ra_cons rfl ra_nil) (r24_eq hy) rfl rfl rfl rfl) ?_
  conv => whnf
  let t : Bool := (b.Long == xg1.1.Long) && ((b.Bits == xg1.1.Bits) && ((b.Version == xg1.1.Version) && ((b.DCID == xg1.1.DCID) && ((b.SCID == xg1.1.SCID) && ((b.Rest == xg1.1.Rest) && true)))))
  refine br.h2 h ?_ ?_ ?_
  · rfl
  · clear h; intro hb h; conv => whnf
    all_goals (cases h)
    all_goals exact rfl
  clear h; intro hb h; conv => whnf
  refine br.h2 h ?_ ?_ ?_
  · rfl
  · clear h; intro hb h; conv => whnf
    all_goals (cases h)
    all_goals exact rfl
  clear h; intro hb h; conv => whnf
  refine br.h2 h ?_ ?_ ?_
  · rfl
  · clear h; intro hb h; conv => whnf
    all_goals (cases h)
    all_goals exact rfl
  clear h; intro hb h; conv => whnf
  refine br.h2 h ?_ ?_ ?_
  · rfl
  · clear h; intro hb h; conv => whnf
    all_goals (cases h)
    all_goals exact rfl
  clear h; intro hb h; conv => whnf
  obtain ⟨a2, hy, h2⟩ := obind.elim h; clear h; have h := h2; clear h2
  refine sumK.introF [] (sumRun_of (aqs := []) ra_nil (r16_eq hy) rfl rfl rfl rfl) ?_
  conv => whnf
  all_goals (cases h)
  all_goals exact rfl
theorem ok3 (R07_Small : (List (List UInt8)) → Int → Option Bool) (R09_Get : (List UInt8) → Option (quic_Head × Int)) (R09_Put : quic_Head → Option ((List UInt8) × Int)) (R09_With : (List UInt8) → (List UInt8) → Option ((List UInt8) × Int)) (law09_awake : Option Bool) (law09_back : quic_Head → Option quic_Head) (law09_of : quic_Head → Option quic_Head) (quic_Get : (List UInt8) → Option (quic_Head × Int)) (quic_Put : quic_Head → Option ((List UInt8) × Int)) (quic_With : (List UInt8) → (List UInt8) → Option ((List UInt8) × Int)) (hS : SumsOK Try.prog (aget (sums3 R07_Small R09_Get R09_Put R09_With law09_awake law09_back law09_of quic_Get quic_Put quic_With))) : SumOK Try.prog 3 (s3 (law09_QuicTellsF R07_Small R09_Get R09_Put R09_With law09_awake law09_back law09_of quic_Get quic_Put quic_With)) := by
  refine SumOK.of_leads tab_ok (fun ar r ha hr => ?_) ⟨Try.f3, rfl, by decide, rfl⟩
  simp only [s3] at ha hr
  unfold r3 at hr
  split at hr <;> try (cases hr; done)
  split at hr <;> cases hr
  rename_i x h
  refine ⟨_, rfl, (leads3 R07_Small R09_Get R09_Put R09_With law09_awake law09_back law09_of quic_Get quic_Put quic_With hS _ _ _ x h).mono fun v H t hp => ?_⟩
  cases hp
  exact Res.val rfl trivial
def law09_QuicTells : quic_Head → (List UInt8) → (List UInt8) → Option Bool := law09_QuicTellsF R07_Small R09_Get R09_Put R09_With law09_awake law09_back law09_of quic_Get quic_Put quic_With
theorem lift3 : SumOK Try.prog 3 (s3 law09_QuicTells) := ok3 R07_Small R09_Get R09_Put R09_With law09_awake law09_back law09_of quic_Get quic_Put quic_With (SumsOK.of_tab ⟨lift15, lift21, lift19, lift23, lift16, lift24, lift18, lift20, lift17, lift22, trivial⟩)
end Go.Vm.Code

/- QuicTells, in plain words. -/
namespace Go.Vm.Code
open Go Go.Vm
def withQ (s cid : List UInt8) : List UInt8 × Int :=
  if (getQ s).2 ≠ 0 then ([], (getQ s).2) else if cid.length ≠ 8 then ([], 1) else
  putQ (if (getQ s).1.Long = true then ⟨(getQ s).1.Long, (getQ s).1.Bits, (getQ s).1.Version, (getQ s).1.DCID, cid, (getQ s).1.Rest⟩ else ⟨(getQ s).1.Long, (getQ s).1.Bits, (getQ s).1.Version, cid, (getQ s).1.SCID, (getQ s).1.Rest⟩)
theorem getQ_rng (s : List UInt8) : (0 ≤ (getQ s).1.Version ∧ (getQ s).1.Version < 2 ^ 32) ∧ (getQ s).1.Rest.length ≤ s.length := by
  have hv : valL ((s.drop 1).take 4) < 2 ^ 32 := val_take_lt _ (by decide)
  have z : (0 ≤ zeroQ.Version ∧ zeroQ.Version < 2 ^ 32) ∧ zeroQ.Rest.length ≤ s.length := ⟨by decide, Nat.zero_le _⟩
  unfold getQ
  split
  · exact z
  split
  · exact z
  split
  · split
    · exact z
    · exact ⟨⟨by simp only []; omega, by simp only []; omega⟩, by simp⟩
  split
  · exact z
  split
  · exact z
  split
  · exact z
  · exact ⟨⟨by simp only []; omega, by simp only []; omega⟩, by simp⟩
theorem with_tail {s cid : List UInt8} (h : s.length < 2 ^ 38) (P : quic_Head → Option (List UInt8 × Int)) (hP : ∀ h : quic_Head, 0 ≤ h.Version ∧ h.Version < 2 ^ 32 → h.Rest.length < 2 ^ 38 → P h = some (putQ h)) :
    cond ((getQ s).2 != 0) (some (([] : List UInt8), (getQ s).2)) (cond ((cid.length : Int) != 8) (some ([], 1)) (cond (getQ s).1.Long
      ((P ⟨(getQ s).1.Long, (getQ s).1.Bits, (getQ s).1.Version, (getQ s).1.DCID, cid, (getQ s).1.Rest⟩).bind fun p => some (p.1, p.2))
      ((P ⟨(getQ s).1.Long, (getQ s).1.Bits, (getQ s).1.Version, cid, (getQ s).1.SCID, (getQ s).1.Rest⟩).bind fun p => some (p.1, p.2)))) = some (withQ s cid) := by
  unfold withQ
  have hr := getQ_rng s
  generalize getQ s = g at *
  by_cases h1 : g.2 = 0
  · have : (g.2 != 0) = false := by rw [bne_eq_false_iff_eq]; exact h1
    rw [this, cond_false, if_neg (by omega)]
    by_cases h2 : cid.length = 8
    · have : ((cid.length : Int) != 8) = false := by rw [bne_eq_false_iff_eq]; omega
      rw [this, cond_false, if_neg (by omega), hP ⟨_, _, _, _, cid, _⟩ hr.1 (show g.1.Rest.length < 2 ^ 38 by omega), hP ⟨_, _, _, cid, _, _⟩ hr.1 (show g.1.Rest.length < 2 ^ 38 by omega)]
      cases hl : g.1.Long <;> rfl
    · have : ((cid.length : Int) != 8) = true := by rw [bne_iff_ne]; omega
      rw [this, cond_true, if_pos h2]
  · have : (g.2 != 0) = true := by rw [bne_iff_ne]; exact h1
    rw [this, cond_true, if_pos h1]
theorem qwith_eq {s cid : List UInt8} (h : s.length < 2 ^ 38) : quic_With s cid = some (withQ s cid) := by
  unfold quic_With quic_WithF
  rw [qgetQ_eq h, Option.bind_some]
  exact with_tail h quic_Put fun h a b => qput_eq a b
theorem rwith_eq {s cid : List UInt8} (h : s.length < 2 ^ 38) : R09_With s cid = some (withQ s cid) := by
  unfold R09_With R09_WithF
  rw [rgetQ_eq h, Option.bind_some]
  exact with_tail h R09_Put fun h a b => rputQ_eq a b
theorem awake09 : law09_awake = some true := by decide +kernel
theorem quicTells (h : quic_Head) (s cid : List UInt8) (hv : 0 ≤ h.Version ∧ h.Version < 2 ^ 32) : law09_QuicTells h s cid = some true := by
  unfold law09_QuicTells law09_QuicTellsF
  rw [awake09, small_eq (by simp), Option.bind_some]
  cases hs : [h.DCID, h.SCID, h.Rest, cid].all fun x => decide ((x.length : Int) ≤ 60) with
  | false => rfl
  | true =>
    rw [Bool.not_true, cond_false]
    simp only [List.all_cons, List.all_nil, Bool.and_true, Bool.and_eq_true, decide_eq_true_eq] at hs
    by_cases h2 : (s.length : Int) > 100
    · rw [cond_p h2]; rfl
    have of : law09_of h = some h := rfl
    have back : law09_back (getQ s).1 = some (getQ s).1 := rfl
    rw [cond_n h2, of, Option.bind_some, qput_eq hv (by omega), rputQ_eq hv (by omega), qgetQ_eq (by omega), rgetQ_eq (by omega), qwith_eq (by omega), rwith_eq (by omega)]
    simp only [Option.bind_some, back, beq_self_eq_true, cond_true, Bool.and_self]
end Go.Vm.Code
