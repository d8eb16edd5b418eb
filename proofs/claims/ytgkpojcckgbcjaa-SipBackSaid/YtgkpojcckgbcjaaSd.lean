import Derived.Test.YtgkpojcckgbcjaaSc
namespace Go.Vm.Code
open Go Go.Vm Go.Proofs
/-! numbers of 64 bits, as vectors of bits -/
def wv (x : BitVec 64) : Int := x.toNat
theorem wv_range (x : BitVec 64) : 0 ≤ wv x ∧ wv x < 2 ^ 64 := by unfold wv; have := x.isLt; omega
theorem wv_of {n : Int} (h : 0 ≤ n ∧ n < 2 ^ 64) : n = wv (BitVec.ofInt 64 n) := by
  unfold wv; rw [BitVec.toNat_ofInt]; omega
theorem ofInt_wv (x : BitVec 64) : BitVec.ofInt 64 (wv x) = x := by
  apply BitVec.eq_of_toNat_eq; unfold wv; rw [BitVec.toNat_ofInt]; have := x.isLt; omega
theorem wrap_wv (n : Int) : IntKind.wrap .u64 n = wv (BitVec.ofInt 64 n) := by
  unfold wv
  rw [BitVec.toNat_ofInt]
  have : IntKind.wrap .u64 n = n % 2 ^ 64 := by
    unfold IntKind.wrap; simp [IntKind.bits, IntKind.signed]
  omega
theorem addI_wv (x y : BitVec 64) : addI (wv x) (wv y) = wv (x + y) := by
  unfold addI; rw [wrap_wv, BitVec.ofInt_add, ofInt_wv, ofInt_wv]
theorem subI_wv (x y : BitVec 64) : subI (wv x) (wv y) = wv (x - y) := by
  unfold subI; rw [wrap_wv, Int.sub_eq_add_neg, BitVec.ofInt_add, BitVec.ofInt_neg, ofInt_wv, ofInt_wv, BitVec.sub_eq_add_neg]
theorem xorI_wv (x y : BitVec 64) : xorI (wv x) (wv y) = wv (x ^^^ y) := by
  unfold xorI; rw [wrap_wv, ofInt_wv, ofInt_wv]
  exact congrArg wv (ofInt_wv _)
theorem orI_wv (x y : BitVec 64) : orI (wv x) (wv y) = wv (x ||| y) := by
  unfold orI; rw [wrap_wv, ofInt_wv, ofInt_wv]
  exact congrArg wv (ofInt_wv _)
theorem rotI_wv (x : BitVec 64) (k : Nat) (hk : k < 64) : rotI (wv x) k = wv (x.rotateLeft k) := by
  unfold rotI
  have e1 : IntKind.wrap .u64 (wv x * 2 ^ k) = wv (x <<< k) := by
    rw [wrap_wv]; congr 1
    apply BitVec.eq_of_toNat_eq
    rw [BitVec.toNat_ofInt, BitVec.toNat_shiftLeft, Nat.shiftLeft_eq]
    unfold wv
    have : ((x.toNat : Int) * 2 ^ k) = ((x.toNat * 2 ^ k : Nat) : Int) := by simp
    rw [this]; omega
  have e2 : (wv x).fdiv (2 ^ (64 - k)) = wv (x >>> (64 - k)) := by
    unfold wv
    rw [BitVec.toNat_ushiftRight, Nat.shiftRight_eq_div_pow, Int.fdiv_eq_ediv_of_nonneg _ (Int.pow_nonneg (by decide))]
    simp
  rw [e1, e2, orI_wv, BitVec.rotateLeft_def]
  rw [Nat.mod_eq_of_lt hk]
end Go.Vm.Code
