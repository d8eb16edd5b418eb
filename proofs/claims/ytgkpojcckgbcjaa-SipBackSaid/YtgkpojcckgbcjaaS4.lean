import Derived.Test.YtgkpojcckgbcjaaS3
namespace Go.Vm.Code
open Go Go.Vm Go.Proofs
set_option maxRecDepth 20000
set_option maxHeartbeats 1000000
def sumsC (F : Int → Q → Q) : List (Nat × Summ) := (65, sMix F) :: sumsB
theorem sumsC_ok : SumsOK Try.prog (aget (sumsC mixF)) := SumsOK.of_tab ⟨mix_ok, round_ok, rround_ok, rot_ok, turn_ok, trivial⟩
def gMix (F : Int → Q → Q) : List Value → Option Value
  | [.int .u64 a, .int .u64 b, .int .u64 c, .int .u64 d, .int .i64 n] => some (.agg ⟨qcells (F n ⟨a, b, c, d⟩)⟩)
  | _ => none
theorem smix_of (F : Int → Q → Q) (hS : SumsOK Try.prog (aget (sumsC F))) : SumOK Try.prog 36 (sFlat 5 (gMix F)) := by
  refine SumOK.of_flat tab_ok (fun vs v hl hg => ?_) ⟨Try.f36, rfl, by decide, rfl⟩
  unfold gMix at hg
  split at hg <;> cases hg
  refine ⟨_, rfl, ?_⟩
  refine ev_ok tab_ok hS true 500 ?_
  conv => whnf
  try rfl
/-- a round taken back -/
def backI (q : Q) : Q :=
  let c1 := rotI q.c 32
  let b1 := rotI (xorI q.b c1) 47
  let c2 := subI c1 b1
  let d1 := rotI (xorI q.d q.a) 43
  let a1 := subI q.a d1
  let d2 := rotI (xorI d1 c2) 48
  let c3 := subI c2 d2
  let a2 := rotI a1 32
  let b2 := rotI (xorI b1 a2) 51
  let a3 := subI a2 b2
  ⟨a3, b2, c3, d2⟩
def gBack : List Value → Option Value
  | [.int .u64 a, .int .u64 b, .int .u64 c, .int .u64 d] => some (.tuple ⟨qcells (backI ⟨a, b, c, d⟩)⟩)
  | _ => none
theorem back_ok : SumOK Try.prog 38 (sFlat 4 gBack) := by
  refine SumOK.of_flat tab_ok (fun vs v hl hg => ?_) ⟨Try.f38, rfl, by decide, rfl⟩
  unfold gBack at hg
  split at hg <;> cases hg
  refine ⟨_, rfl, ?_⟩
  refine ev_ok tab_ok sumsB_ok true 500 ?_
  conv => whnf
  try rfl
end Go.Vm.Code
