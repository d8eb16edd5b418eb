import Derived.Test.YtgkpojcckgbcjaaS9
namespace Go.Vm.Code
open Go Go.Vm Go.Proofs
set_option maxRecDepth 20000
set_option maxHeartbeats 1000000
def sumsE (W : HQ → List UInt8 → HQ) (X : HQ → Int) : List (Nat × Summ) := [(31, sNew), (32, sWrite W), (33, sSum X)]
theorem sumsE_ok : SumsOK Try.prog (aget (sumsE (writeL (takeI mixF)) (sumI mixF (takeI mixF)))) :=
  SumsOK.of_tab ⟨new_ok, write_of mixF _ sumsD_ok, sum_of mixF _ sumsD_ok, trivial⟩
def rHash (W : HQ → List UInt8 → HQ) (X : HQ → Int) : List SArg → Option SRes
  | [.v (.agg ⟨[.int .u64 a, .int .u64 b]⟩), .v (.string s)] => match Nat.blt s.data.toList.length (2 ^ 62) with
    | true => some ⟨.int .u64 (X (W (newI a b) s.data.toList)), [], []⟩
    | false => none
  | _ => none
def sHash (W : HQ → List UInt8 → HQ) (X : HQ → Int) : Summ := ⟨[.v, .v], rHash W X⟩
theorem hash_of (W : HQ → List UInt8 → HQ) (X : HQ → Int) (hS : SumsOK Try.prog (aget (sumsE W X))) : SumOK Try.prog 34 (sHash W X) := by
  refine SumOK.of_leads tab_ok (fun ar r ha hr => ?_) ⟨Try.f34, rfl, by decide, rfl⟩
  simp only [sHash] at ha hr
  unfold rHash at hr
  split at hr <;> try (cases hr; done)
  split at hr <;> cases hr
  rename_i a b s _ hb
  have hlen := Nat.blt_eq.mp hb
  refine ⟨_, rfl, ?_⟩
  refine ev_ok tab_ok hS true 500 ?_
  conv => whnf
  refine sumK.intro (write_sum W (h := newI a b) rfl rfl rfl ((fits_iff _ _).2 ⟨Int.le_refl 0, by show (0 : Int) + _ < _; omega⟩)) ?_
  conv => whnf
  exact Res.val rfl trivial
end Go.Vm.Code
