import Derived.Test.YtgkpojcckgbcjaaSb
namespace Go.Vm.Code
open Go Go.Vm Go.Proofs
set_option maxRecDepth 20000
set_option maxHeartbeats 1000000
def sumsG (W : HQ → List UInt8 → HQ) (X : HQ → Int) : List (Nat × Summ) := [(34, sHash W X)]
def gTrue : List Value → Option Value
  | [] => some (.bool true)
  | _ => none
theorem hash_val : (sumI mixF (takeI mixF) (writeL (takeI mixF) (newI 0x0706050403020100 0x0f0e0d0c0b0a0908) [0, 1, 2, 3, 4, 5, 6, 7, 8, 9, 10, 11, 12, 13, 14]) == 0xa129ca6149be45e5) = true := by
  decide +kernel
theorem awake_of (W : HQ → List UInt8 → HQ) (X : HQ → Int) (hS : SumsOK Try.prog (aget (sumsG W X))) (h : (X (W (newI 0x0706050403020100 0x0f0e0d0c0b0a0908) [0, 1, 2, 3, 4, 5, 6, 7, 8, 9, 10, 11, 12, 13, 14]) == 0xa129ca6149be45e5) = true) : SumOK Try.prog 30 (sFlat 0 gTrue) := by
  refine SumOK.of_flat tab_ok (fun vs v hl hg => ?_) ⟨Try.f30, rfl, by decide, rfl⟩
  unfold gTrue at hg
  split at hg <;> cases hg
  refine ⟨_, rfl, ?_⟩
  refine ev_ok tab_ok hS true 500 ?_
  conv => whnf
  exact congrArg Value.bool h
end Go.Vm.Code
