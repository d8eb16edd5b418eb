import Derived.Test.YtgkpojcckgbcjaaSa
namespace Go.Vm.Code
open Go Go.Vm Go.Proofs
set_option maxRecDepth 20000
set_option maxHeartbeats 1000000
def head37 (n : Int) (i : Nat) (q : Q) : VM :=
  ⟨⟨37, 36, [(11, .int .i64 i), (10, .pointer (some ⟨0, 0, none⟩)), (0, .int .u64 q.a), (1, .int .u64 q.b), (2, .int .u64 q.c), (3, .int .u64 q.d), (4, .int .i64 n)],
    [.code k37_9, .inLoop k37_9, .inBlock 0, .code k37_14], [], false, none⟩, [], [(0, .cells [.int .u64 0, .int .u64 0, .int .u64 0, .int .u64 0])], 1⟩
theorem loop37 (n : Int) : ∀ (k i : Nat) (q : Q), (i + k : Nat) = cntI n →
    Leads Try.prog 37 0 (head37 n i q) (fun v _ _ => v = .agg ⟨qcells (rounds k q)⟩) := by
  have hc : cntI n = if n ≤ 0 then 0 else if n < 64 then n else 64 := by unfold cntI; (repeat' split) <;> omega
  have hb := cntI_b n
  intro k
  induction k with
  | zero =>
    intro i q hi
    refine ev_ok tab_ok sumsB_ok true 500 ?_
    conv => whnf
    refine br.intro (fun h => ?_) (fun h => ?_) <;> conv => whnf
    · refine br.neg (by simp at h ⊢; revert hc; (repeat' split) <;> omega) ?_
      conv => whnf
      rfl
    · rfl
  | succ k ih =>
    intro i q hi
    have hw : IntKind.wrap .i64 ((i : Int) + 1) = ((i + 1 : Nat) : Int) := by rw [wrap64 _ (by omega)]; omega
    refine ev_ok tab_ok sumsB_ok true 500 ?_
    conv => whnf
    refine br.pos (by simp; revert hc; (repeat' split) <;> omega) ?_
    conv => whnf
    refine br.pos (by simp; omega) ?_
    conv => whnf
    rw [hw]
    refine Leads.re (ih (i + 1) (roundI q) (by omega)) [(0, 0)] rfl ?_ ?_
    · repeat' first | exact trivial | refine ⟨⟨_, rfl, rfl⟩, ?_⟩
    · exact ⟨⟨_, _, rfl, rfl, .cells rfl⟩, trivial⟩
theorem rmix_ok : SumOK Try.prog 37 (sFlat 5 (gMix mixF)) := by
  refine SumOK.of_flat tab_ok (fun vs v hl hg => ?_) ⟨Try.f37, rfl, by decide, rfl⟩
  unfold gMix at hg
  split at hg <;> cases hg
  rename_i a b c d n
  refine ⟨_, rfl, ?_⟩
  have hb := cntI_b n
  refine ev_ok tab_ok sumsB_ok true 500 ?_
  conv => whnf
  refine Leads.re (loop37 n (cntI n).toNat 0 ⟨a, b, c, d⟩ (by rw [Nat.zero_add]; exact Int.toNat_of_nonneg hb.1)) [(0, 0)] rfl ?_ ?_
  · repeat' first | exact trivial | refine ⟨⟨_, rfl, rfl⟩, ?_⟩
  · exact ⟨⟨_, _, rfl, rfl, .cells rfl⟩, trivial⟩
end Go.Vm.Code
