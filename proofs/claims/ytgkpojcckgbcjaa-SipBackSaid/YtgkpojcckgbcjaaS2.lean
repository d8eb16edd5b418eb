import Derived.Test.YtgkpojcckgbcjaaS1
namespace Go.Vm.Code
open Go Go.Vm Go.Proofs
set_option maxRecDepth 20000
set_option maxHeartbeats 1000000

structure Q where
  a : Int
  b : Int
  c : Int
  d : Int
/-- a round, on four numbers -/
def roundI (q : Q) : Q :=
  let a1 := addI q.a q.b
  let b1 := xorI (rotI q.b 13) a1
  let a2 := rotI a1 32
  let c1 := addI q.c q.d
  let d1 := xorI (rotI q.d 16) c1
  let a3 := addI a2 d1
  let d2 := xorI (rotI d1 21) a3
  let c2 := addI c1 b1
  let b2 := xorI (rotI b1 17) c2
  let c3 := rotI c2 32
  ⟨a3, b2, c3, d2⟩
def qcells (q : Q) : List Value := [.int .u64 q.a, .int .u64 q.b, .int .u64 q.c, .int .u64 q.d]
def sumsA : List (Nat × Summ) := [(97, sFlat 2 gRot), (68, sFlat 2 gRot)]
theorem sumsA_ok : SumsOK Try.prog (aget sumsA) := SumsOK.of_tab ⟨rot_ok, turn_ok, trivial⟩

def rRound : List SArg → Option SRes
  | [.pt [.int .u64 a, .int .u64 b, .int .u64 c, .int .u64 d]] => some ⟨.tuple ⟨[]⟩, [], [qcells (roundI ⟨a, b, c, d⟩)]⟩
  | _ => none
def sRound : Summ := ⟨[.pt 4], rRound⟩
theorem round_ok : SumOK Try.prog 93 sRound := by
  refine SumOK.of_leads tab_ok (fun ar r ha hr => ?_) ⟨Try.f93, rfl, by decide, rfl⟩
  simp only [sRound] at ha hr
  unfold rRound at hr
  split at hr <;> cases hr
  rename_i a b c d
  refine ⟨_, rfl, ?_⟩
  refine ev_ok tab_ok sumsA_ok true 500 ?_
  conv => whnf
  exact Res.val rfl ⟨rfl, rfl, trivial⟩

def gRound : List Value → Option Value
  | [.int .u64 a, .int .u64 b, .int .u64 c, .int .u64 d] => some (.tuple ⟨qcells (roundI ⟨a, b, c, d⟩)⟩)
  | _ => none
theorem rround_ok : SumOK Try.prog 67 (sFlat 4 gRound) := by
  refine SumOK.of_flat tab_ok (fun vs v hl hg => ?_) ⟨Try.f67, rfl, by decide, rfl⟩
  unfold gRound at hg
  split at hg <;> cases hg
  refine ⟨_, rfl, ?_⟩
  refine ev_ok tab_ok sumsA_ok true 500 ?_
  conv => whnf
  try rfl
end Go.Vm.Code
