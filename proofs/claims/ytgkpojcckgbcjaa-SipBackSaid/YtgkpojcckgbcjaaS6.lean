import Derived.Test.YtgkpojcckgbcjaaS5
namespace Go.Vm.Code
open Go Go.Vm Go.Proofs
set_option maxRecDepth 20000
set_option maxHeartbeats 1000000
def newI (a b : Int) : HQ := ⟨⟨xorI 8317987319222330741 a, xorI 7237128888997146477 b, xorI 7816392313619706465 a, xorI 8387220255154660723 b⟩, 0, 0⟩
def rNew : List SArg → Option SRes
  | [.v (.agg ⟨[.int .u64 a, .int .u64 b]⟩)] => some ⟨.pointer (some ⟨0, 0, none⟩), [hcells (newI a b)], []⟩
  | _ => none
def sNew : Summ := ⟨[.v], rNew⟩
theorem new_ok : SumOK Try.prog 31 sNew := by
  refine SumOK.of_leads tab_ok (fun ar r ha hr => ?_) ⟨Try.f31, rfl, by decide, rfl⟩
  simp only [sNew] at ha hr
  unfold rNew at hr
  split at hr <;> cases hr
  rename_i a b
  refine ⟨_, rfl, ?_⟩
  refine ev_ok tab_ok SumsOK.none true 500 ?_
  conv => whnf
  exact Res.one 1 rfl (.inr rfl) trivial (Nat.zero_le 1)
end Go.Vm.Code
