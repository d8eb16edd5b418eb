import Derived.Test.YtgkpojcckgbcjaaSe
namespace Go.Vm.Code
open Go Go.Vm Go.Proofs
set_option maxRecDepth 20000
set_option maxHeartbeats 1000000
def gBackB (B : Q → Q) : List Value → Option Value
  | [.int .u64 a, .int .u64 b, .int .u64 c, .int .u64 d] => some (.tuple ⟨qcells (B ⟨a, b, c, d⟩)⟩)
  | _ => none
theorem backB_ok : SumOK Try.prog 38 (sFlat 4 (gBackB backI)) := by
  refine SumOK.of_flat tab_ok (fun vs v hl hg => ?_) ⟨Try.f38, rfl, by decide, rfl⟩
  unfold gBackB at hg
  split at hg <;> cases hg
  refine ⟨_, rfl, ?_⟩
  refine ev_ok tab_ok sumsB_ok true 500 ?_
  conv => whnf
  try rfl
def sumsH (F : Int → Q → Q) (B : Q → Q) : List (Nat × Summ) := [(36, sFlat 5 (gMix F)), (38, sFlat 4 (gBackB B)), (30, sFlat 0 gTrue)]
theorem law10 (F : Int → Q → Q) (B : Q → Q) (hS : SumsOK Try.prog (aget (sumsH F B))) (a b c d : Int) (h : B (F 1 ⟨a, b, c, d⟩) = ⟨a, b, c, d⟩) :
    Leads Try.prog 10 0 ⟨⟨10, 54, [(0, .int .u64 a), (1, .int .u64 b), (2, .int .u64 c), (3, .int .u64 d)], [.code k10_7], [], false, none⟩, [], [], 0⟩ (fun v _ _ => v = .bool true) := by
  refine ev_ok tab_ok hS true 500 ?_
  conv => whnf
  have h1 : B ⟨(F 1 ⟨a, b, c, d⟩).a, (F 1 ⟨a, b, c, d⟩).b, (F 1 ⟨a, b, c, d⟩).c, (F 1 ⟨a, b, c, d⟩).d⟩ = ⟨a, b, c, d⟩ := h
  rw [h1]
  repeat (refine br.pos (by simp) ?_; conv => whnf)
end Go.Vm.Code
