import Derived.Test.YtgkpojcckgbcjaaSd
namespace Go.Vm.Code
open Go Go.Vm Go.Proofs
set_option maxRecDepth 20000
theorem rot_rot (x : BitVec 64) (j k : Nat) (h : j + k = 64) (hj : 0 < j) (hk : 0 < k) : (x.rotateLeft j).rotateLeft k = x := by
  apply BitVec.eq_of_getLsbD_eq
  intro i hi
  rw [BitVec.getLsbD_rotateLeft, BitVec.getLsbD_rotateLeft, BitVec.getLsbD_rotateLeft]
  rw [Nat.mod_eq_of_lt (by omega : k < 64), Nat.mod_eq_of_lt (by omega : j < 64)]
  by_cases h1 : i < k
  · simp only [h1, decide_true, cond_true]
    have h2 : ¬ (64 - k + i < j) := by omega
    simp only [h2, decide_false, cond_false]
    have h3 : 64 - k + i - j = i := by omega
    have h4 : 64 - k + i < 64 := by omega
    simp [h3, h4]
  · simp only [h1, decide_false, cond_false]
    have h2 : i - k < j := by omega
    simp only [h2, decide_true, cond_true]
    have h3 : 64 - j + (i - k) = i := by omega
    simp [h3, hi]
theorem back_round (a b c d : BitVec 64) : backI (roundI ⟨wv a, wv b, wv c, wv d⟩) = ⟨wv a, wv b, wv c, wv d⟩ := by
  simp only [roundI, backI, addI_wv, xorI_wv, subI_wv, rotI_wv _ 13 (by decide), rotI_wv _ 16 (by decide), rotI_wv _ 17 (by decide), rotI_wv _ 21 (by decide), rotI_wv _ 32 (by decide), rotI_wv _ 43 (by decide), rotI_wv _ 47 (by decide), rotI_wv _ 48 (by decide), rotI_wv _ 51 (by decide)]
  have x1 : ∀ x y : BitVec 64, x ^^^ y ^^^ y = x := fun x y => by rw [BitVec.xor_assoc, BitVec.xor_self, BitVec.xor_zero]
  simp only [rot_rot _ 32 32 rfl (by decide) (by decide), x1, rot_rot _ 17 47 rfl (by decide) (by decide), rot_rot _ 21 43 rfl (by decide) (by decide), rot_rot _ 16 48 rfl (by decide) (by decide), rot_rot _ 13 51 rfl (by decide) (by decide), BitVec.add_sub_cancel]
end Go.Vm.Code
