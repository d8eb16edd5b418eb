import Derived.Test.YtgkpojcckgbcjaaCode12
namespace Go.Vm.Code
open Go Go.Vm Go.Proofs
set_option maxRecDepth 20000
set_option maxHeartbeats 1000000

/-! numbers of 64 bits, as the machine has them -/
def orI (a b : Int) : Int := IntKind.wrap .u64 ((BitVec.ofInt 64 a ||| BitVec.ofInt 64 b).toNat)
def xorI (a b : Int) : Int := IntKind.wrap .u64 ((BitVec.ofInt 64 a ^^^ BitVec.ofInt 64 b).toNat)
def addI (a b : Int) : Int := IntKind.wrap .u64 (a + b)
def subI (a b : Int) : Int := IntKind.wrap .u64 (a - b)
def rotI (a : Int) (k : Nat) : Int := orI (IntKind.wrap .u64 (a * 2 ^ k)) (a.fdiv (2 ^ (64 - k)))
def gRot : List Value → Option Value
  | [.int .u64 n, .int .i64 13] => some (.int .u64 (rotI n 13))
  | [.int .u64 n, .int .i64 16] => some (.int .u64 (rotI n 16))
  | [.int .u64 n, .int .i64 17] => some (.int .u64 (rotI n 17))
  | [.int .u64 n, .int .i64 21] => some (.int .u64 (rotI n 21))
  | [.int .u64 n, .int .i64 32] => some (.int .u64 (rotI n 32))
  | [.int .u64 n, .int .i64 43] => some (.int .u64 (rotI n 43))
  | [.int .u64 n, .int .i64 47] => some (.int .u64 (rotI n 47))
  | [.int .u64 n, .int .i64 48] => some (.int .u64 (rotI n 48))
  | [.int .u64 n, .int .i64 51] => some (.int .u64 (rotI n 51))
  | _ => none
theorem rot_ok : SumOK Try.prog 97 (sFlat 2 gRot) := by
  refine SumOK.of_flat tab_ok (fun vs v hl hg => ?_) ⟨Try.f97, rfl, by decide, rfl⟩
  unfold gRot at hg
  split at hg <;> cases hg
  all_goals
    refine ⟨_, rfl, ?_⟩
    refine ev_ok tab_ok SumsOK.none true 500 ?_
    conv => whnf
    try rfl
theorem turn_ok : SumOK Try.prog 68 (sFlat 2 gRot) := by
  refine SumOK.of_flat tab_ok (fun vs v hl hg => ?_) ⟨Try.f68, rfl, by decide, rfl⟩
  unfold gRot at hg
  split at hg <;> cases hg
  all_goals
    refine ⟨_, rfl, ?_⟩
    refine ev_ok tab_ok SumsOK.none true 500 ?_
    conv => whnf
    try rfl
end Go.Vm.Code
